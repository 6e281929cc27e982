/- Texts of this proof, merged. -/
import Derived.Test.YtglaihdcndcmkaaGreatDoorTd
import Derived.KernelRfl
import Derived.Lib.IndexMore
import Derived.Lib.Replace
import Derived.Lib.Index
import Derived.Lib.LastIndexByte
import Derived.Lib.Strings
import Derived.RecoverIn
set_option linter.all false
open Go Go.Proofs Go.RowKit Go.Proofs.YtglaihdcndcmkaaGreatDoor
set_option maxHeartbeats 4000000
namespace ya
variable {lib:Callee}
def V5(c:UInt8)(h:Za c<=15):(48<=c.toNat/\c.toNat<=57/\Za c=c.toNat - 48)\/¬(48<=c.toNat/\c.toNat<=57)/\∃x:Nat,Dg .u8 (c.toNat:Int) 32=(x:Int)/\97<=x/\x<=102/\Za c=x - 87:=by
 have:=Qj (p:=fun n=>decide (Za (UInt8.ofNat n)<=15->(48<=n/\n<=57/\Za (UInt8.ofNat n)=n - 48)\/¬(48<=n/\n<=57)/\Dg .u8 (n:Int) 32=((Dg .u8 (n:Int) 32).toNat:Int)/\97<=(Dg .u8 (n:Int) 32).toNat/\(Dg .u8 (n:Int) 32).toNat<=102/\Za (UInt8.ofNat n)=(Dg .u8 (n:Int) 32).toNat - 87)) Hb c;rw[UInt8.ofNat_toNat,decide_eq_true_eq]at this;rcases this h with h|⟨h,a⟩
 ·exact .inl h
 ·exact .inr ⟨h,_,a⟩
def zal(a b:Nat)(e:a<1048576)(g:b<16):Dg .i32 (IntKind.i32.wrap ((a:Int)* 2^min 4 32)) (b:Int)=((16* a+b:Nat):Int):=by
 have d:IntKind.i32.wrap ((a:Int)* 2^min 4 32)=((a* 16:Nat):Int):=by
  rw[show((2:Int)^min 4 32)=16 from rfl,wrap32 aa];omega
 have c:=CJ (i:=4) (b:=b) aa a;rw[Nat.shiftLeft_eq]at c;rw[d,ME _ _ aa aa,<-c];omega
def iB{s:ba}{k i n:Nat}{c:UInt8}{ys}{r}(hs:s.length<=100000)(t:i<4)(v:n<65536)(h:s[k+2+i]?=some c)(j:Za c<=15)(fa:∀q∈r,q.1<ys.length+1):
 oa (da code lib) ia Gu ⟨[(0,.ptr 0 0),(4,.flat (.int .i32 (n:Nat))),(31,.flat (.int .i64 (i:Nat)))],cl r,[],sb s k ys⟩=some (.normal,⟨[(0,.ptr 0 0),(4,.flat (.int .i32 (16* n+Za c:Nat))),(31,.flat (.int .i64 (i+1:Nat)))],cl r,[],sb s k ys⟩):=by
 have u:=Bm h;have w:=zal n (Za c) aa aa;have y:=c.toNat_lt;have l:((k:Int)+2+(i:Int)).toNat=k+2+i:=aa
 rcases V5 c j with⟨b,d,a⟩|⟨b,x,d,a,o,g⟩
 ·have e:(c.toNat:Int) - 48=((Za c:Nat):Int):=aa
  clear a;generalize 16* n+Za c=z at*;exact ua nA
 ·have e:(x:Int) - 97+10=((Za c:Nat):Int):=aa
  clear g;generalize 16* n+Za c=z at*;by_cases p:48<=c.toNat
  ·exact ua nA
  ·exact ua nA
theorem zhs(B:kc lib){s:ba}{k v:Nat}{ys}{r}(hs:s.length<=100000)(hr:∀q∈r,q≠(0,1))(fa:∀q∈r,q.1<ys.length+1)(j:se (s.drop k)=some v):
 da code lib 284 [.ptr 0 0] (sb s k ys) (cl r)=some ([.flat (.int .i32 (v:Nat)),.flat (.bool true)],false,sb s (k+6) ys,cl r):=by
 have E:=jq j;have F:=BA B (s.drop k) [92,117] (by rw[fc];omega) ha;rw[fc]at E;have l:=j;rw[pJ]at l;split at l
 ·rename_i C
  rw[C]at F;clear l
  match u:s.drop k with
  |a::b::c::d::e::f::t=>
   rw[u]at j;unfold se at j;dsimp only at j;split at j
   ·rename_i D
    obtain⟨_,⟨w,y⟩,z,A⟩:=D;have o:∀i x,(s.drop k)[i]?=some x->s[k+i]?=some x:=fun i x h=>by rwa[lg]at h
    rw[u]at o;have r0:=iB (lib:=lib) (k:=k) (i:=0) (n:=0) hs aa aa (o 2 c rfl) w fa;have r1:=iB (lib:=lib) (k:=k) (i:=1) (n:=16* 0+Za c) hs aa aa (o 3 d rfl) y fa;have r2:=iB (lib:=lib) (k:=k) (i:=2) (n:=16* (16* 0+Za c)+Za d) hs aa aa (o 4 e rfl) z fa;have r3:=iB (lib:=lib) (k:=k) (i:=3) (n:=16* (16* (16* 0+Za c)+Za d)+Za e) hs aa aa (o 5 f rfl) A fa;have j:256* (16* Za c+Za d)+(16* Za e+Za f)=v:=Xe j;have e3:16* (16* (16* (16* 0+Za c)+Za d)+Za e)+Za f=v:=aa
    rw[e3]at r3;generalize 16* (16* (16* 0+Za c)+Za d)+Za e=I at*;generalize 16* (16* 0+Za c)+Za d=H at*;generalize 16* 0+Za c=G at*;have r4:oa (da code lib) ia Gu ⟨[(0,.ptr 0 0),(4,.flat (.int .i32 (v:Nat))),(31,.flat (.int .i64 4))],cl r,[],sb s k ys⟩=some (.exit 0,⟨[(0,.ptr 0 0),(4,.flat (.int .i32 (v:Nat)))],cl r,[],sb s k ys⟩):=ua nA;clear u o w y z A j e3;simp only[n0,n1,n2,n3,n4,Zc,Nat.reduceAdd,sb]at r0 r1 r2 r3 r4;have g:∀n,Cc (oa (da code lib) ia Gu) [0,4,31] (ys.length+1) (n+5) ⟨[(0,.ptr 0 0),(4,.flat (.int .i32 0)),(31,.flat (.int .i64 0))],cl r,[],sb s k ys⟩=some (.exit 0,⟨[(0,.ptr 0 0),(4,.flat (.int .i32 (v:Nat)))],cl r,[],sb s k ys⟩):=fun n=>ye @Bb @Mb @Zb
    have p:=g (ia - 5);rw[show ia - 5+5=ia from rfl]at p;simp only[sb]at p;clear r0 r1 r2 r3 r4 g;exact xa VZ
   ·cases j
  |[]|[_]|[_,_]|[_,_,_]|[_,_,_,_]|[_,_,_,_,_]=>
   have:=congrArg List.length u;rw[fc]at this;simp only[sa,Ca]at this;omega
 ·cases l
def g2{c:UInt8}{r:ba}(h:32<=(Sa (c::r)).1):32<=c.toNat:=by
 rcases Oh c.toNat 128 with a|a
 ·simp only[Sa,a,if_true]at h;exact h
 ·omega
def p2{c:UInt8}{r:ba}(h:Sd (Sa (c::r))=false):(c::r).take (Sa (c::r)).2=Ka (Sa (c::r)).1:=by
 rcases yP c r with a|⟨k,a,e,b,d⟩
 ·rw[a]at h;cases h
 ·rw[CW d b]
  grind [oh]
theorem H3(M:Ge lib)(N:kc lib){s:ba}{k:Nat}{v:Nat×Nat}{ys}{r}(hs:s.length<=100000)(hr:∀q∈r,q≠(0,1))(fa:∀q∈r,q.1<ys.length+1)(e:Rm (s.drop k)=some v):
 da code lib 250 [.ptr 0 0] (sb s k ys) (cl r)=some ([.flat (.int .i32 (v.1:Nat)),.flat (.bool true)],false,sb s (k+v.2) ys,cl r):=by
 have p:=fun k a(h:se (s.drop k)=some a)=>zhs N (k:=k) hs hr fa h
 have A:∀d:UInt8,da code lib 96 [.flat (.string (S [34,92,47,98,102,110,114,116])),.flat (.int .u8 d.toNat)] [] []=some ([.flat (.int .i64 (match Dc d [34,92,47,98,102,110,114,116]with|some i=>(i:Int)|none=>-1))],false,[],[]):=fun d=>Ep M _ d ha
 have z:s[k+1]?=(s.drop k)[1]?:=by rw[lg]
 match g:s.drop k with
 |[]=>rw[g]at e;cases e
 |[_]=>rw[g]at e;cases e
 |c::d::t=>
  have O:=gg g;rw[sa]at O;rw[g]at z e;have z:s[k+1]?=some d:=z;have o:=A d;unfold Rm at e;simp only[yk,Bo,Ja]at e;rcases QI d with((rfl|rfl|rfl|rfl|rfl|rfl|rfl|rfl)|⟨K,B,C,D,E,F,G,H,I⟩)
  iterate 8
   ·cases e
    clear g p A;simp[Dc]at o;exact xa Ay
  rw[K]at e;have u:Dc d [34,92,47,98,102,110,114,116]=none:=by
   simp only[Dc,Wf B,Wf C,Wf D,Wf E,Wf F,Wf G,Wf H,Wf I,if_false,aj]
  rw[u]at o;clear B C D E F G H I A;dsimp only at e o;have j:=fun a h=>p k a (by rw[g];exact h)
  cases l:se (c::d::t)with
  |none=>rw[l]at e;cases e
  |some a=>
   have P:=jq l;have j:=j a l;rw[l]at e;dsimp only at e;simp only[sb]at j;by_cases g1:55296<=a
   ·by_cases J:a<=57343
    ·rw[if_pos ⟨g1,J⟩]at e
     split at e
     ·rename_i g3
      have L:s.drop (k+6)=(c::d::t).drop 6:=by rw[<-g,Cd]
      have n:=fun b h=>p (k+6) b (by rw[L];exact h)
      cases w:se ((c::d::t).drop 6)with
      |none=>rw[w]at e;cases e
      |some b=>
       have n:=n b w;rw[w]at e;dsimp only at e;split at e
       ·rename_i g4
        obtain⟨g4,Q⟩:=g4;have e:=Xe e;subst e;obtain⟨x,rfl⟩:∃x,a=55296+x:=⟨a - 55296,aa⟩;obtain⟨y,rfl⟩:∃y,b=56320+y:=⟨b - 56320,aa⟩;simp only[sb,Ee,show((6:Nat):Int)=6 from rfl,yi,show((55296:Nat):Int)=55296 from rfl,show((56320:Nat):Int)=56320 from rfl]at j n⊢;have e1:(55296:Int)+(x:Int) - 55296=x:=aa
        have e2:(56320:Int)+(y:Int) - 56320=y:=aa
        have e3:(x:Int)* 2^min 10 32=1024* (x:Int):=by rw[show((2:Int)^min 10 32)=1024 from rfl];omega
        have e4:((1024* x:Nat):Int)=1024* (x:Int):=aa
        have e5:(k:Int)+6+6=(k:Int)+12:=aa
        clear g p l w L z K u;exact xa Ay
       ·cases e
     ·cases e
    ·rw[if_neg fun h=>J h.2]at e
     cases e;clear g p l;exact xa Ay
   ·rw[if_neg fun h=>g1 h.1]at e
    cases e;clear g p l;exact xa Ay
abbrev It(s:ba)(j:Nat)(u:Bool)(out:ba):Na:=sb s j [mh,(101,bld u 2 out [])]
def eX(c:Qb lib){s:ba}{j:Nat}{u}{out:ba}(w:ba)(h:out.length+w.length<=za):da code lib 45 [.ptr 2 0,.flat (.string (S w))] (It s j u out) [.cell 2 1]=some ([.flat (.int .i64 (w.length:Nat)),.flat .nilIface],false,It s j true (out++w),[.cell 2 1]):=
 cj c (b:=2) (r:=[]) (rest:=[]) rfl Wk h (fun q a=>by cases a) (fun q a=>by cases a)
theorem zcW(E:Ge lib)(F:kc lib)(l:Qb lib){s:ba}{k:Nat}{v:ba×Nat}(hs:s.length<=100000)(N:k<s.length)(K:nn s (k+1)=some v):
 da code lib 190 [.ptr 0 0] (sb s k []) []=some ([.agg (Pe ⟨34,v.1,k,v.2⟩),.flat (.bool true)],false,sb s v.2 [],[]):=by
 have P:(⟨#[]⟩:ByteArray)=S []:=rfl;have H:za=4294967296:=rfl
 have z:=Uz (body:=oa (da code lib) ia gC) (live:=[0,2,4,5]) (nb:=3) (fun(u:Bool)(q:ba×Nat)=>(⟨[(0,.ptr 0 0),(2,.ptr 1 0),(4,.ptr 2 0),(5,.flat (.int .i64 (k:Nat)))],[.cell 2 1],[],It s q.2 u q.1⟩:St))
  (Vi s) (fun q o st=>o=.exit 0/\∃u j,q.2=j+1/\j<s.length/\st=⟨[(0,.ptr 0 0),(2,.ptr 1 0),(4,.ptr 2 0),(5,.flat (.int .i64 (k:Nat)))],[.cell 2 1],[],It s j u q.1⟩) (fun q=>q.2<=s.length/\q.1.length<=4* q.2) (fun u ⟨out,j⟩ I=>?_) (n:=s.length+1) (m:=ia) false (a:=([],k+1)) ⟨aa,ea⟩ K (by grind [ia])
 ·obtain⟨o,st,y,rfl,u,j,e,g,rfl⟩:=z
  obtain⟨t,p⟩:=v;dsimp only at e y⊢;subst e;have d:=tl (lib:=lib) (oc:=[.cell 2 1]) l (bx:=It s (j+1) u t) (b:=2) rfl ea;have h:Ia 2 (bld u 2 t [])=Ia 2 (bld u 2 t []):=rfl;simp only[sb,fD,Ee,n1]at y d⊢;exact xa UZ
 ·dsimp only at I⊢
  unfold Vi;dsimp only;cases h:s.drop j with
  |nil=>trivial
  |cons c r=>
   have M:=Yh h;have y:=gg h;dsimp only;by_cases e:c=34
   ·subst e
    rw[if_pos rfl];dsimp only;exact rv (o:=.exit 0) (s:=⟨[(0,.ptr 0 0),(2,.ptr 1 0),(4,.ptr 2 0),(5,.flat (.int .i64 (k:Nat)))],[.cell 2 1],[],It s j u out⟩) (ua mA) ea ⟨rfl,u,j,rfl,aa,rfl⟩
   rw[if_neg e];cases d:uf (c::r)with
   |none=>trivial
   |some v=>
    have A:=yt d;rw[sa]at A;have L:=ch v.1;refine⟨⟨true,?_⟩,by dsimp only;rw[Da];omega⟩;have w:=toNat_ne e;simp only[show((UInt8.toNat 34:Nat):Int)=34 from rfl]at w;by_cases g:c=92
    ·subst g
     have i:=H3 E F (k:=j) (v:=v) (ys:=[mh,(101,bld u 2 out [])]) (r:=[(2,1)]) hs ea ea (by rw[h];unfold uf at d;dsimp only at d;rwa[if_pos rfl]at d);have x:=Gs (lib:=lib) v.1 aa;have B:=eX l (s:=s) (j:=j+v.2) (u:=u) (out:=out) (Ka v.1) aa;clear h d;simp only[sb,show cl [(2,1)]=[Loc.cell 2 1]from rfl,Ee]at i B⊢;exact ua mA
    ·have x:=toNat_ne g
     simp only[show((UInt8.toNat 92:Nat):Int)=92 from rfl]at x;have C:=cA (lib:=lib) s (by unfold Sm;omega) j aa;unfold uf at d;dsimp only at d;rw[if_neg g]at d;split at d
     ·cases d
     rename_i i;have d:=Xe d;rw[not_or,not_or,Bool.not_eq_true]at i;obtain⟨g1,G,g3⟩:=i;have J:=g2 (Nat.le_of_not_lt g1);have ht:=p2 g3;rw[h]at C;rw[d]at C g1 G g3 ht;have O:(s.take (j+v.2)).drop j=Ka v.1:=by rw[<-ht,<-h,ds,yi]
     have B:=eX l (s:=s) (j:=j) (u:=u) (out:=out) (Ka v.1) aa;obtain⟨a,n⟩:=v;unfold Sd at g3;simp only[decide_eq_false_iff_not,not_and]at g3;dsimp only at*;clear h d ht;simp only[sb,Ee]at B⊢;by_cases D:a=65533
     ·have g3:=g3 D
      subst D;exact ua mA
     ·exact ua mA
def Er(c:UInt8):FuncId:=if rl c=true then 189 else if c=34 then 190 else if 97<=c.toNat/\c.toNat<=122 then 191 else 192
def zah(n:Ge lib){s:ba}{k:Nat}(c:UInt8):da code lib 118 [.ptr 0 0,.flat (.int .u8 c.toNat)] (sb s k []) []=some ([.tag (2* Er c) [.ptr 0 0]],false,sb s k [],[]):=by
 have e:=Ep n [123,125,91,93,58,44] c ha;have a:=Fq c [123,125,91,93,58,44];have hs:rl c=([123,125,91,93,58,44]:ba).contains c:=rfl;rw[<-hs]at a;unfold Er;cases g:Dc c [123,125,91,93,58,44]with
 |some i=>
  rw[g]at e a;have a:true=rl c:=a;rw[<-a,if_pos rfl];clear hs a;exact xa Su
 |none=>
  rw[g]at e a;have a:false=rl c:=a;rw[<-a,if_neg ea];clear hs a;by_cases b:c=34
  ·subst b
   rw[if_pos rfl];simp only[show((UInt8.toNat 34:Nat):Int)=34 from rfl]at e;exact xa Su
  ·have d:=toNat_ne b
   simp only[show((UInt8.toNat 34:Nat):Int)=34 from rfl]at d;rw[if_neg b];by_cases j:97<=c.toNat
   ·by_cases l:c.toNat<=122
    ·rw[if_pos ⟨j,l⟩];exact xa Su
    ·rw[if_neg fun h=>l h.2];exact xa Su
   ·rw[if_neg fun h=>j h.1];exact xa Su
def zic{c:UInt8}{r w:ba}(h:ng (c::r)=some w):97<=c.toNat/\c.toNat<=122:=by
 have a:c=116\/c=102\/c=110:=by
  unfold ng wT bi wN at h;simp only[List.isPrefixOf,cc,beq_iff_eq]at h
  grind
 rcases a with rfl|rfl|rfl<;>decide
def zax{c:UInt8}{r:ba}{n}(h:dl (c::r)=some n):c.toNat<=57:=by
 unfold dl at h;split at h
 ·cases h
 ·rename_i a
  unfold ld at a;by_cases b:c=45
  ·subst b;decide
  ·rw[if_neg (by simpa using b),List.drop_zero,YD]at a
   unfold Fp at a
   grind
theorem e7(i:Ge lib)(j:kc lib)(o:Qb lib){s:ba}{k:Nat}{c:UInt8}{t:Qa}(hs:s.length<=100000)(g:s[k]?=some c)(ht:Jh s k=some t):
 da code lib (Er c) [.ptr 0 0] (sb s k []) []=some ([.agg (Pe t),.flat (.bool true)],false,sb s t.to [],[]):=by
 have e:=Bm g;unfold Jh at ht;obtain⟨r,d⟩:∃r,s.drop k=c::r:=⟨s.drop (k+1),by rw[Qd e];congr 1;exact(qg g).2⟩;have u:=fun w h=>zib j (w:=w) hs (Nat.le_of_lt e) (by rw[d];exact h)
 have p:=fun n h=>d7 i (n:=n) hs (Nat.le_of_lt e) (by rw[d];exact h)
 have v:∀n,(s.take (k+n)).drop k=(c::r).take n:=fun n=>by rw[<-d,ds,yi]
 rw[d]at ht;dsimp only at ht;unfold Er;by_cases g1:rl c=true
 ·rw[if_pos g1]at ht⊢
  cases ht;exact F_ hs g
 rw[if_neg g1]at ht⊢;by_cases l:c=34
 ·rw[if_pos l]at ht⊢
  obtain⟨q,b,rfl⟩:=qm ht;exact zcW i j o hs e b
 rw[if_neg l]at ht⊢;cases a:ng (c::r)with
 |some w=>
  rw[a]at ht;cases ht;rw[if_pos (zic a)];exact u w a
 |none=>
  rw[a]at ht;obtain⟨n,b,rfl⟩:=qm ht;have:=zax b;rw[if_neg aa];rw[<-v];exact p n b
def zai(c:UInt8):Er c≠hb:=by
 unfold Er
 repeat' split
 all_goals decide
def lJ(p:Ge lib)(B:kc lib)(A:Qb lib){s:ba}{l:List Qa}(hs:s.length<=100000)(u:nh s=some l):da code lib 58 [.flat (.string (S s))] [] []=some ([.ga l.length (gb l),.flat (.int .i64 0)],false,[],[]):=by
 have D:za=4294967296:=rfl
 have w:=Uz (body:=oa (da code lib) ia eC) (live:=[0,4,5]) (nb:=1) (fun(_:Unit)(q:List Qa×Nat)=>(⟨[(0,.flat (.string (S s))),(4,.ptr 0 0),(5,.ga q.1.length (gb q.1))],[.slot 5],[],sb s q.2 []⟩:St))
  (yf s) (fun l o st=>o=.exit 0/\∃k,st=⟨[(5,.ga l.length (gb l))],[.slot 5],[],sb s k []⟩) (fun q=>q.2<=s.length/\q.1.length<=q.2) (fun _ ⟨l,j⟩ F=>?_) (n:=s.length+1) (m:=ia) () (a:=([],0)) ⟨Ab _,Ab _⟩ u (by grind [ia])
 ·obtain⟨o,st,d,rfl,k,rfl⟩:=w
  simp only[show gb []=[]from rfl,Ca,n0,sb]at d;refine ja QZ (qa rfl) ?_;exact ua @Xc
 ·dsimp only at F⊢
  unfold yf;dsimp only;cases g:s.drop j with
  |nil=>
   have u:=Ak.1 g;exact rv (o:=.exit 0) (s:=⟨[(5,.ga l.length (gb l))],[.slot 5],[],sb s j []⟩) (Kb IH @Xc) ea ⟨rfl,j,rfl⟩
  |cons c r=>
   have y:=Yh g;have u:=gg g;have h:=wU (lib:=lib) (s:=s) (k:=j) (ys:=[]) (r:=[]) hs ea;rw[y]at h;have z:=Ep p [32,9,13,10] c ha;have d:=Fq c [32,9,13,10];have e:Gm c=([32,9,13,10]:ba).contains c:=rfl;rw[<-e]at d;clear g e;dsimp only at h⊢;cases x:Dc c [32,9,13,10]with
   |some i=>
    rw[x]at z d;have d:true=Gm c:=d;rw[<-d,if_pos rfl];clear d;refine⟨⟨(),?_⟩,wh⟩;simp only[Zo,sb]at h⊢;exact Kb IH @Xc
   |none=>
    rw[x]at z d;have d:false=Gm c:=d;rw[<-d,if_neg ea];clear d;cases ht:Jh s j with
    |none=>trivial
    |some t=>
     have I:=zah p (s:=s) (k:=j) c;have G:=e7 p B A hs y ht;have v:=Ww ht;have J:=eq_false (zai c);refine⟨⟨(),?_⟩,by dsimp only;rw[Da,mu];omega⟩;generalize Er c=f at*;obtain⟨L,M,z3⟩:=v;have C:gb l++[.flat (.int .u8 t.kind.toNat),.flat (.string (S t.text)),.flat (.int .i64 (j:Nat)),.flat (.int .i64 (t.to:Nat))]=gb (l++[t]):=by rw[<-z3];exact iS (b:=[t])
     have K:2* f % 2=0:=Nat.mul_mod_right 2 f;have E:2* f/2=f:=Nat.mul_div_cancel_left f ha;have H:=Zj l;simp only[Zo,sb,Pe]at h I G⊢;exact ye IH @Xc @Da.{0}
theorem jS:∀(l:List Qa)(k),(gb l).drop (k* 4)=gb (l.drop k)
 |[],k=>by simp[gb]
 |t::l,0=>by simp
 |t::l,k+1=>by
  rw[Rv,show(k+1)* 4=k* 4+1+1+1+1 by omega];simp only[lm];exact jS l k
def s9(l:List Qa):(gb l).take (l.length* 4)=gb l:=xk (by rw[Zj];omega)
def io(b:Bool):List Loc:=if b=true then[.cell 1 2,.cell 1 3,.cell 0 2,.cell 0 3]else[.cell 1 3,.cell 1 2,.cell 0 2,.cell 0 3]
def Rk(L:List Qa)(c:UInt8)(t:ba)(b:Bool)(ks:List ba)(vs:List JV)(at_:Nat):St:=
 ⟨[(0,.ga L.length (gb L)),(2,.ptr 0 0),(4,.ptr 1 0),(5,.flat (.int .i64 (at_:Nat)))],io b,[],[(291,zJ),(291,[.flat (.int .u8 c.toNat),.flat (.string (S t)),.ga ks.length (va ks),.ga vs.length (je vs)])]⟩
def rY{L:List Qa}{c:UInt8}{t:ba}{b ks g}{vs:List JV}{at_ Dc p q:Nat}{v:JV}{a:Qa}(hLZ:L.length<=100000)(K:ks.length<=100000)(M:vs.length<=100000)(w:L[at_]?=some a)(j:(a.kind=44/\Dc=at_+1)\/(a.kind≠93/\a.kind≠125/\a.kind≠44/\Dc=at_))
 (I:(c=123/\∃e:Qa,L[Dc]?=some e/\g=ks++[e.text]/\p=Dc+2)\/(c=91/\g=ks/\p=Dc)) (hpZ:p<=L.length) (hqZ:q<=100000)
 (y:da code lib 283 [.ga (L.length - p) (gb (L.drop p))] [] []=some ([.agg v.cells,.flat (.int .i64 (q:Nat))],false,[],[])):
 Wp [0,2,4,5] 2 (Rk L c t false g (vs++[v]) (p+q)) (oa (da code lib) ia Hq (Rk L c t b ks vs at_)):=by
 have H:za=4294967296:=rfl;have G:=(qg w).1;have r:=Nl w;have e1:=Zj L;have e2:=s9 L;have e3:=jS L p;have e5:=Mg (L.drop p);have U:=Mg (L.drop (at_+1));have R:=fun n=>Xc (n:=n) L
 have T:∀n,Ia n zJ=true:=fun n=>rfl
 have e6:((at_:Int)+1+2).toNat=at_+1+2:=aa
 obtain⟨ac,D,B,C⟩:=a;simp only[Pe,Fa,Ma]at r;dsimp only at j;have V:=Cv vs;have W:=fun n=>ed (n:=n) ks
 have X:=fun n=>eg (n:=n) vs
 have Y:=Pc ks;have Z:=oj vs;have f6Z:=dd (l:=ks);have E:=fun n=>ed (n:=n) g
 have f8Z:=fun n=>eg (n:=n) (vs++[v])
 obtain⟨c1,z,h,i⟩:=v;have g1:=Pc h;have g2Z:=oj i;have g3:=fun n=>ed (n:=n) h
 have g4:=fun n=>eg (n:=n) i
 have F:=mz (a:=vs) (b:=[.mk c1 z h i]);have g6Z:(vs++[JV.mk c1 z h i]).length=vs.length+1:=ea
 simp only[je,JV.cells,ph]at y F;have A:ac≠93->ac≠125->ac≠44->(((ac.toNat:Int)=93)=False)/\(((ac.toNat:Int)=125)=False)/\(((ac.toNat:Int)=44)=False):=fun j k o=>⟨toNat_ne j,toNat_ne k,toNat_ne o⟩
 rcases I with⟨rfl,e,d,rfl,rfl⟩|⟨rfl,rfl,rfl⟩
 ·have J:=(qg d).1
  have e4:=Nl d;obtain⟨kcZ,x,kfZ,N⟩:=e;simp only[Pe,Fa,Ma]at e4;dsimp only at E⊢;have g7Z:va ks++[.flat (.string (S x))]=va (ks++[x]):=by simp[va]
  have g8Z:(ks++[x]).length=ks.length+1:=ea
  have g9Z:=Mf ks;rcases j with⟨rfl,rfl⟩|⟨k,o,u,rfl⟩
  ·cases b<;>exact ye jw @Rk.eq_1 @io.eq_1
  ·obtain⟨O,P,Q⟩:=A k o u
   obtain⟨rfl,rfl,rfl,rfl⟩:=(Qa.mk.injEq ..).mp (Xe (w.symm.trans d));cases b<;>exact ye jw @Rk.eq_1 @io.eq_1
 ·rcases j with⟨rfl,rfl⟩|⟨k,o,u,rfl⟩
  ·cases b<;>exact ye jw @Rk.eq_1 @io.eq_1
  ·obtain⟨O,P,Q⟩:=A k o u
   rw[e3]at r;rw[r]at y e5;cases b<;>exact ye jw @Rk.eq_1 @io.eq_1
def zaO{live nb t body n st}(h:Wp live nb t (body st)):Cc body live nb (n+1) st=Cc body live nb n t:=by
 rw[Bb];unfold Wp at h;split at h
 ·rename_i a;rw[a,Mb,h]
 ·exact h.elim
def er(t:Qa):Bool:=Ch t.kind||Jf t.kind
def Q4{t:Qa}(h:er t=true):t.kind≠93/\t.kind≠125/\t.kind≠44:=by
 unfold er Ch Jf at h;refine⟨?_,?_,?_⟩<;>(intro e;rw[e]at h;cases h)
def YK{L:List Qa}{c:UInt8}{t:ba}{b ks}{vs:List JV}{at_ m:Nat}{a:Qa}(l:L.length<=100000)(d:L[at_]?=some a)(e:(c=91/\a.kind=93)\/(c=123/\a.kind=125)):
 Cc (oa (da code lib) ia Hq) [0,2,4,5] 2 (m+1) (Rk L c t b ks vs at_)=some (.exit 0,⟨[(2,.ptr 0 0),(4,.ptr 1 0),(5,.flat (.int .i64 (at_:Nat)))],io b,[],[(291,zJ),(291,[.flat (.int .u8 c.toNat),.flat (.string (S t)),.ga ks.length (va ks),.ga vs.length (je vs)])]⟩):=by
 have k:=(qg d).1;have j:=Nl d;obtain⟨ac,i,g,h⟩:=a;simp only[Pe,Fa,Ma]at j;dsimp only at e;rcases e with⟨rfl,rfl⟩|⟨rfl,rfl⟩<;>cases b<;>exact mj jw @Bb @Zb @Rk.eq_1 @io.eq_1
def ZK{L:List Qa}{x:Qa}{b ks}{vs:List JV}{at_:Nat}(l:L.length<=100000)(e:L[0]?=some x)(g:x.kind=123\/x.kind=91)(i:at_<=100000)
 (a:Cc (oa (da code lib) ia Hq) [0,2,4,5] 2 ia (Rk L x.kind x.text true [] [] 1)=some (.exit 0,⟨[(2,.ptr 0 0),(4,.ptr 1 0),(5,.flat (.int .i64 (at_:Nat)))],io b,[],[(291,zJ),(291,[.flat (.int .u8 x.kind.toNat),.flat (.string (S x.text)),.ga ks.length (va ks),.ga vs.length (je vs)])]⟩)):
 da code lib 283 [.ga L.length (gb L)] [] []=some ([.agg (JV.mk x.kind x.text ks vs).cells,.flat (.int .i64 (at_+1:Nat))],false,[],[]):=by
 have o:(⟨#[]⟩:ByteArray)=S []:=rfl;have fa:=(qg e).1;have d:=Nl e;have h:=fun n=>ed (n:=n) ks
 have j:=fun n=>eg (n:=n) vs
 have k:=fun n=>Xc (n:=n) L
 obtain⟨c,p,fr,to⟩:=x;simp only[Pe,Fa,Ma,Nat.zero_mul,zf,Zc]at d;dsimp only at a g⊢;simp only[Rk,io,if_true,va,je,Fe,Ca,zJ,n1]at a;rw[d]at a;rw[JV.cells];unfold va at h;unfold va;rcases g with rfl|rfl
 ·rw[show((UInt8.toNat 123:Nat):Int)=123 from rfl]at a
  cases b<;>exact xa CD
 ·rw[show((UInt8.toNat 91:Nat):Int)=91 from rfl]at a
  cases b<;>exact xa CD
def c7{l:List Qa}(hlZ:l.length<=100000):∀n k v k',Wb n l k=some (v,k')->
 (∃t,l[k]?=some t/\er t=true)/\k<k'/\k'<=l.length/\da code lib 283 [.ga (l.length - k) (gb (l.drop k))] [] []=some ([.agg v.cells,.flat (.int .i64 (k' - k:Nat))],false,[],[]):=by
 have hzZ:(⟨#[]⟩:ByteArray)=S []:=rfl;have Q:∀{c:UInt8},Jf c=true->c=123\/c=91:=fun{c} h=>by
  have:c=91\/c=123:=by simpa[Jf]using h
  exact this.symm
 have D:∀k j,(l.drop k)[j]?=l[k+j]?:=fun k j=>lg ..
 refine jB (P:=fun k v k'=>(∃t,l[k]?=some t/\er t=true)/\k<k'/\k'<=l.length/\da code lib 283 [.ga (l.length - k) (gb (l.drop k))] [] []=some ([.agg v.cells,.flat (.int .i64 (k' - k:Nat))],false,[],[]))
  (R:=fun d c t ks vs k=>(∃x,l[d]?=some x/\x.kind=c/\x.text=t)/\d<=k/\k<l.length/\(k=d\/nc l k 44=true)/\ks.length<=k - d/\vs.length<=k - d/\∃m b,ia<=m+(k - d)/\Cc (oa (da code lib) ia Hq) [0,2,4,5] 2 ia (Rk (l.drop d) c t true [] [] 1)=Cc (oa (da code lib) ia Hq) [0,2,4,5] 2 m (Rk (l.drop d) c t b ks vs (if k=d then 1 else k - d))) ?_ ?_ ?_ ?_
 ·intro k t ht g
  have X:=(qg ht).1;refine⟨⟨t,ht,by unfold er;rw[g];rfl⟩,aa,aa,?_⟩;have i:=Nl (l:=l.drop k) (k:=0) (x:=t) (by rw[D];exact ht);have e1:k+1 - k=1:=aa
  have u:0<l.length - k:=aa
  obtain⟨c,w,fr,to⟩:=t;simp only[Pe,Fa,Ma,Nat.zero_mul,zf,Cd]at i;rw[e1];simp only[JV.cells,va,je,Fe,Ca];clear ht;have U:c=34\/c=48\/c=97:=by simpa[Ch]using g
  clear g;generalize l.length - k=z at*;rcases U with rfl|rfl|rfl
  all_goals
   refine ja CD (qa rfl) ?_;exact Kb @Xc @zJ.eq_1
 ·intro k t ht I H
  have X:=(qg ht).1;obtain⟨Y,a,K,g⟩:=Wh H;refine⟨⟨t,ht,by unfold er;rw[I];simp⟩,aa,aa,?_⟩;have r:=Q I;have o:(l.drop k).length<=100000:=by rw[fc];omega
  have T:=YK (lib:=lib) (L:=l.drop k) (c:=t.kind) (t:=t.text) (b:=true) (ks:=[]) (vs:=[]) (at_:=1) (m:=ia - 1) (a:=a) o (by rw[D];exact K) (by rcases r with h|h<;>(rw[h]at g⊢;simp[g,Hd]));have:=ZK (lib:=lib) (L:=l.drop k) (x:=t) (b:=true) (ks:=[]) (vs:=[]) (at_:=1) o (by rw[D];exact ht) r aa T;rw[fc]at this;rw[show k+2 - k=1+1 by omega];exact this
 ·intro k t ht I H
  have X:=(qg ht).1;exact⟨⟨t,ht,rfl,rfl⟩,aa,X,.inl rfl,ea,ea,ia,true,aa,by rw[if_pos rfl]⟩
 ·intro d c t ks vs k v k' I hRZ U hPZ
  obtain⟨⟨x,T,rfl,rfl⟩,hk0,hkl,W,hks,hvs,m,b,hmZ,g⟩:=hRZ;obtain⟨⟨y,hyZ,Z⟩,fa,hle,M⟩:=hPZ;have r:=Q I;have hbg:200000<ia:=ha
  obtain⟨m,rfl⟩:∃m'Z,m=m'Z+2:=⟨m - 2,aa⟩;obtain⟨p,J⟩:∃p,(if x.kind=123 then k+3 else k+1)=p:=⟨_,rfl⟩;obtain⟨G,i⟩:∃q,(if x.kind=123 then ks++[ui l (k+1)]else ks)=q:=⟨_,rfl⟩;obtain⟨at_,A⟩:∃q,(if k=d then 1 else k - d)=q:=⟨_,rfl⟩;rw[J]at fa M hyZ;rw[A]at g;rw[i];have hpk:k<p:=by rw[<-J];split<;>omega
  have o:(l.drop d).length<=100000:=by rw[fc];omega
  have hkl':G.length<=ks.length+1:=by rw[<-i];split<;>simp
  have F:(x.kind=123/\∃w:Qa,(l.drop d)[k+1 - d]?=some w/\G=ks++[w.text]/\p - d=k+1 - d+2)\/(x.kind=91/\G=ks/\p - d=k+1 - d):=by
   rcases r with h|h
   ·obtain⟨_,w,u,_⟩:=Wh (U h).1
    rw[if_pos h]at J i;refine .inl ⟨h,w,by rw[D];rw[show d+(k+1 - d)=k+1 by omega];exact u,?_,aa⟩;rw[<-i,ui,u]
   ·have R:¬x.kind=123:=by rw[h];decide
    rw[if_neg R]at J i;exact .inr ⟨h,i.symm,aa⟩
  have N:∃a,(l.drop d)[at_]?=some a/\((a.kind=44/\k+1 - d=at_+1)\/(a.kind≠93/\a.kind≠125/\a.kind≠44/\k+1 - d=at_)):=by
   by_cases E:k=d
   ·rw[if_pos E]at A
    subst E A;rcases r with h|h
    ·obtain⟨_,w,u,B⟩:=Wh (U h).1
     exact⟨w,by rw[D];exact u,.inr ⟨by rw[B];decide,by rw[B];decide,by rw[B];decide,aa⟩⟩
    ·have R:¬x.kind=123:=by rw[h];decide
     rw[if_neg R]at J;obtain⟨B,f2Z,f3Z⟩:=Q4 Z;exact⟨y,by rw[D,J];exact hyZ,.inr ⟨B,f2Z,f3Z,aa⟩⟩
   ·rw[if_neg E]at A
    obtain⟨_,a,K,C⟩:=Wh (W.resolve_left E);exact⟨a,by rw[D,<-A,show d+(k - d)=k by omega];exact K,.inl ⟨C,aa⟩⟩
  obtain⟨a,K,V⟩:=N;have hr:=rY (lib:=lib) (c:=x.kind) (t:=x.text) (b:=b) (vs:=vs) (q:=k' - p) (v:=v) o aa aa K V F (by rw[fc];omega) aa (by
   rw[fc,Cd,show d+(p - d)=p by omega,show l.length - d - (p - d)=l.length - p by omega];exact M)
  rw[show p - d+(k' - p)=k' - d by omega]at hr;rw[zaO hr]at g;refine⟨fun H=>?_,fun _ C=>⟨⟨x,T,rfl,rfl⟩,aa,(Wh C).1,.inr C,aa,by rw[Da,mu];omega,m+1,false,aa,by rw[if_neg aa];exact g⟩⟩;obtain⟨Y,e,H,O⟩:=Wh H;rw[YK (lib:=lib) o (a:=e) (by rw[D,show d+(k' - d)=k' by omega];exact H) (by rcases r with h|h<;>(rw[h]at O⊢;simp[O,Hd]))]at g;have:=ZK (lib:=lib) o (by rw[D];exact T) r aa g;rw[fc]at this;refine⟨⟨x,T,by unfold er;rw[I];simp⟩,aa,aa,?_⟩;rw[show k'+1 - d=k' - d+1 by omega];exact this
def uq(lib:Callee):Prop:=∀s w:ba,s.length<=1000000000->lib 146 [.flat (.string (S s)),.flat (.string (S w))] [] []=some ([.flat (.int .i64 (Lib.index s w))],false,[],[])
def IR(H:uq lib)(s w)(h:s.length<=1000000000):da code lib 146 [.flat (.string (S s)),.flat (.string (S w))] [] []=some ([.flat (.int .i64 (Lib.index s w))],false,[],[]):=tf ha ca (H s w h)
def Yg(lib:Callee):Prop:=∀s w:ba,s.length<=1000000000->lib 90 [.flat (.string (S s)),.flat (.string (S w))] [] []=some ([.flat (.string (S (if w.isPrefixOf s then s.drop w.length else s))),.flat (.bool (w.isPrefixOf s))],false,[],[])
def Rs(H:Yg lib)(s w)(h:s.length<=1000000000):da code lib 90 [.flat (.string (S s)),.flat (.string (S w))] [] []=some ([.flat (.string (S (if w.isPrefixOf s then s.drop w.length else s))),.flat (.bool (w.isPrefixOf s))],false,[],[]):=tf ha ca (H s w h)
def Nj(lib:Callee):Prop:=∀s w:ba,s.length<=1000000000->lib 84 [.flat (.string (S s)),.flat (.string (S w))] [] []=some ([.flat (.string (S (if w.isSuffixOf s then s.take (s.length - w.length)else s))),.flat (.bool (w.isSuffixOf s))],false,[],[])
def kp(H:Nj lib)(s w)(h:s.length<=1000000000):da code lib 84 [.flat (.string (S s)),.flat (.string (S w))] [] []=some ([.flat (.string (S (if w.isSuffixOf s then s.take (s.length - w.length)else s))),.flat (.bool (w.isSuffixOf s))],false,[],[]):=tf ha ca (H s w h)
def Ax(lib:Callee):Prop:=∀s old a:ba,s.length<=1000000->1<=old.length->a.length<=10->lib 42 [.flat (.string (S s)),.flat (.string (S old)),.flat (.string (S a))] [] []=some ([.flat (.string (S (Lib.replaceAll s old a)))],false,[],[])
def zdp(H:Ax lib)(s old a)(hs:s.length<=1000000)(c:1<=old.length)(b:a.length<=10):da code lib 42 [.flat (.string (S s)),.flat (.string (S old)),.flat (.string (S a))] [] []=some ([.flat (.string (S (Lib.replaceAll s old a)))],false,[],[]):=tf ha ca (H s old a hs c b)
def Au(lib:Callee):Prop:=∀s w:ba,s.length<=1000000000->lib 39 [.flat (.string (S s)),.flat (.string (S w))] [] []=some ([.flat (.string (S (Lib.cut s w).1)),.flat (.string (S (Lib.cut s w).2.1)),.flat (.bool (Lib.cut s w).2.2)],false,[],[])
def qP(H:Au lib)(s w)(h:s.length<=1000000000):da code lib 39 [.flat (.string (S s)),.flat (.string (S w))] [] []=some ([.flat (.string (S (Lib.cut s w).1)),.flat (.string (S (Lib.cut s w).2.1)),.flat (.bool (Lib.cut s w).2.2)],false,[],[]):=tf ha ca (H s w h)
theorem PE:∀(p w r:ba),w≠[]->(∀i,i<p.length->w.isPrefixOf (p.drop i++(w++r))=false)->Lib.index (p++(w++r)) w=(p.length:Int)
 |[],w,r,b,h=>by
  have d:w.isPrefixOf (w++r)=true:=by rw[zk];exact rx w r
  cases w with
  |nil=>exact absurd rfl b
  |cons a w=>
   rw[Ma,Fa];rw[Fa]at d;unfold Lib.index;rw[if_pos d];rfl
 |c::p,w,r,b,h=>by
  have e:=PE p w r b fun i g=>h (i+1) La
  have d:=h 0 ea;rw[zf,Fa]at d;rw[Fa];unfold Lib.index;rw[d,e];have:((p.length:Int)==-1)=false:=by rw[beq_eq_false_iff_ne];omega
  simp only[Ha,if_false,this,sa];omega
theorem XU(old a:ba)(h:a.length<=old.length):∀(n)(s:ba),(Lib.replaceK old a n s).length<=s.length
 |0,s=>Aa _
 |n+1,s=>by
  rw[Lib.replaceK];split
  ·omega
  ·rename_i b
   have c:=Lib.index_ge s old;have d:Lib.index s old≠-1:=by simpa using b
   have e:=Lib.index_room s old aa;have g:=XU old a h n (s.drop ((Lib.index s old).toNat+old.length))
   grind
def zdq(s old a:ba)(h:a.length<=old.length):(Lib.replaceAll s old a).length<=s.length:=by
 grind [Lib.replaceAll,Lib.replace,XU]
def Fc:ba:=[34,44,34,115,116,97,116,117,115,34,58,34]
def LJ(n:Nat):jc n=[44]\/jc n=[92,34]\/∃c l,jc n=c::l/\44∉jc n/\34∉jc n:=by
 by_cases p:n<160
 ·have:=(by decide+kernel:((List.range 160).all fun n=>decide (jc n=[44])||decide (jc n=[92,34])||(!(jc n).contains 44&& !(jc n).contains 34&& !(jc n).isEmpty))=true)
  have:=Ag.1 this n (Zi.2 p);simp only[mq,cc,nx,decide_eq_true_eq]at this;rcases this with(h|h)|⟨⟨a,b⟩,j⟩
  ·exact .inl h
  ·exact .inr (.inl h)
  ·cases o:jc n with
   |nil=>rw[o]at j;cases j
   |cons c l=>rw[o]at a b;exact .inr (.inr ⟨c,l,rfl,by simpa using a,by simpa using b⟩)
 by_cases a:n=8232
 ·subst a;exact .inr (.inr ⟨_,_,rfl,Hb,Hb⟩)
 by_cases b:n=8233
 ·subst b;exact .inr (.inr ⟨_,_,rfl,Hb,Hb⟩)
 obtain⟨r,t⟩:=KJ aa a b;have e:jc n=Ka n:=by unfold jc;rw[r,t];rfl
 have q:∀m,160<=m->m<1114112->∀x∈xe m,128<=x/\x<256:=fun m h u x g=>by
  unfold xe at g
  repeat' split at g
  all_goals simp only[wb,ju,or_false]at g;omega
 have k:160<=(if Sb n then n else 65533)/\(if Sb n then n else 65533)<1114112:=by
  split
  ·rename_i h;have:=OR h;omega
  ·omega
 have d:∀c:UInt8,c.toNat<128->c∉Ka n:=fun c i h=>by
  unfold Ka at h;obtain⟨x,g,rfl⟩:=zi.1 h;have:=q _ k.1 k.2 x g;simp at i;omega
 obtain⟨c,l,i⟩:=nD (if Sb n then n else 65533);rw[e];exact .inr (.inr ⟨UInt8.ofNat c,l.map UInt8.ofNat,by unfold Ka;rw[i];rfl,d 44 ha,d 34 ha⟩)
theorem vT(r:ba):∀(rs:List Nat)(i:Nat),i<(rs.flatMap jc).length->Fc.isPrefixOf ((rs.flatMap jc).drop i++(Fc++r))=false
 |[],i,h=>by simp at h
 |n::rs,i,h=>by
  rw[xn]at h⊢;rcases Oh i (jc n).length with o|o
  ·rw[qx aa,Ac]
   obtain⟨x,t,a⟩:∃x t,(jc n).drop i=x::t:=⟨_,_,Qd o⟩;rw[a];by_cases p:x=34
   ·subst p
    have b:(34:UInt8)∈jc n:=(List.drop_sublist i _).subset (by rw[a];simp);rcases LJ n with j|j|⟨_,_,_,_,j⟩
    ·rw[j]at b;simp at b
    ·rw[j]at a
     have ht:t=[]:=by
      match i,a with
      |0,a=>simp at a
      |1,a=>simp at a;exact a
      |i+2,a=>simp at a
     subst ht;cases rs with
     |nil=>simp[Fc,List.isPrefixOf]
     |cons m rs=>
      rw[xn];rcases LJ m with d|d|⟨c,l,d,q,v⟩
      ·rw[d]
       cases rs with
       |nil=>simp[Fc,List.isPrefixOf]
       |cons k rs=>
        rw[xn];rcases LJ k with g|g|⟨c,l,g,w,u⟩
        ·rw[g];simp[Fc,List.isPrefixOf]
        ·rw[g];simp[Fc,List.isPrefixOf]
        ·have:c≠34:=fun e=>u (by rw[g,e];simp)
         rw[g];simp[Fc,List.isPrefixOf,Wf this]
      ·rw[d];simp[Fc,List.isPrefixOf]
      ·have:c≠44:=fun e=>q (by rw[d,e];simp)
       rw[d];simp[Fc,List.isPrefixOf,Wf this]
    ·exact absurd b j
   ·simp[Fc,List.isPrefixOf,Wf p]
  ·rw[List.drop_append,Jj o,Ma]
   exact vT r rs _ (by rw[Da]at h;omega)
def k6(rc r:ba):Lib.index (ic rc++(Fc++r)) Fc=((ic rc).length:Int):=
 PE _ _ _ ha (fun i h=>vT r _ i h)
def vD{rc bd:ba}(h:xh rc bd=0):sd rc=rc/\∃l v,nh bd=some l/\Wb (l.length+1) l 0=some (v,l.length)/\ee v<32:=by
 unfold xh at h;split at h
 ·cases h
 rename_i c;split at h
 ·cases h
 rename_i e;split at h
 ·cases h
 rename_i g;split at h
 ·cases h
 rename_i a;rcases@rU bd with⟨b,l,v,ht,d,i,e1⟩|⟨b,e1⟩
 ·rw[e1]at a
  exact⟨by simpa using c,l,v,ht,d,by unfold XD at a;dsimp only at a;omega⟩
 ·omega
theorem IW{l:List Qa}:∀n k q,Wb n l k=some q->Wb (n+1) l k=some q
 |0,_,_,h=>by cases h
 |n+1,k,q,h=>by
  have e:=IW (l:=l) n;unfold Wb at h⊢;cases ht:l[k]? with
  |none=>rw[ht]at h;cases h
  |some t=>
   rw[ht]at h;dsimp only at h⊢;by_cases g1:Ch t.kind=true
   ·rw[if_pos g1]at h⊢;exact h
   rw[if_neg g1]at h⊢;by_cases d:Jf t.kind=true
   ·rw[if_pos d]at h⊢
    by_cases g3:nc l (k+1) (Hd t.kind)=true
    ·rw[if_pos g3]at h⊢;exact h
    ·rw[if_neg g3]at h⊢
     refine LA (step:=Lf (Wb n l) l t.kind t.text) (step':=Lf (Wb (n+1) l) l t.kind t.text) id id (fun a b h=>?_) (fun a b h=>?_) (Aa _) h<;>
     ·unfold Lf at h⊢
      simp only[id];split at h
      ·cases h
      ·rename_i g4
       rw[if_neg g4];cases c:Wb n l (if t.kind=123 then a.2.2+3 else a.2.2+1)with
       |none=>rw[c]at h;cases h
       |some w=>rw[c]at h;rw[e _ _ c];exact h
   ·rw[if_neg d]at h;cases h
theorem zhv{s:ba}{l:List Qa}{v:JV}(ht:nh s=some l)(q:Wb (l.length+1) l 0=some (v,l.length)):
 ∃l' j,nh (xg s)=some l'/\Wb (l'.length+1) l' 0=some (j,l'.length)/\ee j=ee v+1:=by
 refine⟨_,.mk 91 [] [] [v],zg4 ht,?_,by simp[ee,Ze]⟩;obtain⟨l',b⟩:∃l',(⟨91,[],0,1⟩::(l.map Qa.up++[⟨93,[],s.length+1,s.length+2⟩]):List Qa)=l':=⟨_,rfl⟩;rw[b];have d:l'.length=l.length+2:=by rw[<-b];simp
 have a:=zhu (l:=l) (l':=l') aa (fun i t h=>by
  have g:=(qg h).1;refine⟨t.up,?_,rfl,rfl⟩;rw[<-b,yk,yl (by simpa using g),List.getElem?_map,h];rfl) _ _ _ _ q
 have k:l'[0]?=some ⟨91,[],0,1⟩:=by rw[<-b];rfl
 have r:nc l' (l.length+1) 93=true:=by
  have:l'[l.length+1]?=some ⟨93,[],s.length+1,s.length+2⟩:=by
   rw[<-b,yk,Af ea];simp
  unfold nc;rw[this];rfl
 have n:nc l' 1 93=false:=by
  cases o:nc l' 1 93 with
  |false=>rfl
  |true=>
   obtain⟨_,t,g,p⟩:=Wh o;unfold Wb at a;rw[show(0+1)=1 from rfl,g]at a;dsimp only at a;rw[p]at a;have e1:Ch 93=false:=ha
   have e2:Jf 93=false:=ha
   rw[e1,e2]at a;cases a
 rw[d];unfold Wb;rw[k];dsimp only;rw[show Ch 91=false by decide,show Jf 91=true by decide,show Hd 91=93 by decide,n];simp only[Ha,if_false,if_true];refine hd ?_;unfold Lf;have e:¬((91:UInt8)=123):=ha
 simp only[e,false_and,if_false];have c:Wb (l.length+2) l' (0+1)=some (v,l.length+1):=IW _ _ _ a;rw[c];dsimp only;rw[show Hd 91=93 by decide,r,if_pos rfl];rfl
variable {lib:Callee}
def xq(lib:Callee):Prop:=∀(l:List Qa)(d:Nat),l.length<=100000->ai l ([],0,0)=some ([],d,5)->lib 282 [.ga l.length (gb l)] [] []=some ([.flat (.int .i64 (d:Nat))],false,[],[])
def TR(i:Ge lib)(j:kc lib)(h:Qb lib)(k:xq lib){s:ba}{l:List Qa}{v:JV}(hs:s.length<=10000)(ht:nh s=some l)(g:Wb (l.length+1) l 0=some (v,l.length))(A:ee v<=32):
 da code lib 247 [.flat (.string (S s))] [] []=some ([.agg v.cells,.flat (.int .i64 0)],false,[],[]):=by
 have C:(⟨#[]⟩:ByteArray)=S []:=rfl;have q:=Wt ht;have e1:=lJ i j h aa ht;have e:=(zV l _ 0 v _ g).2 [] 0 0 (.inl rfl);rw[zf,pq]at e;have o:ai l ([],0,0)=some ([],ee v,5):=by rw[e];simp[ai]
 have e2:da code lib 282 [.ga l.length (gb l)] [] []=some ([.flat (.int .i64 (ee v:Nat))],false,[],[]):=tf ha ca (k l _ aa o);obtain⟨_,_,_,e3⟩:=c7 (lib:=lib) aa _ 0 v _ g;simp only[zf,Nat.sub_zero]at e3;have B:=(Ss v).2;have p:1<=ee v:=by obtain⟨a,b,c,d⟩:=v;simp only[ee];omega
 have t:=fun n=>Xc (n:=n) l
 have u:=Mg l;obtain⟨c,r,ks,vs⟩:=v;have w:=fun n=>ed (n:=n) ks
 have x:=fun n=>eg (n:=n) vs
 have y:=Pc ks;have z:=oj vs;rw[JV.cells]at e3⊢;generalize ee (.mk c r ks vs)=d at*;clear e o g i j h k;exact xa PZ
def sZ(i:Ge lib)(j:kc lib)(h:Qb lib)(k:xq lib)(f:Bool){rc bd:ba}(D:rc.length<=1000)(E:bd.length<=1000)(q:xh rc bd=0):
 da code lib 187 [.agg [.flat (.bool f),.flat (.string (S rc)),.flat (.string (S bd))]] [] []=some ([.flat (.int .i64 0)],false,[],[]):=by
 have r:za=4294967296:=rfl;have F:(⟨#[]⟩:ByteArray)=S []:=rfl;obtain⟨a,l,v,ht,p,t⟩:=vD q;obtain⟨l',w,b,d,o⟩:=zhv ht p;have e1:=TR i j h k aa ht p aa;have e2:=TR i j h k (by unfold xg;simp;omega) b d aa;have e3:=Pu h rc aa;rw[a]at e3;unfold xg at e2;obtain⟨c,G,ks,vs⟩:=v;obtain⟨c',u,e,g⟩:=w;have x:=fun n=>ed (n:=n) ks
 have y:=fun n=>eg (n:=n) vs
 have z:=Pc ks;have A:=oj vs;have g3:=fun n=>ed (n:=n) e
 have g4:=fun n=>eg (n:=n) g
 have B:=Pc e;have C:=oj g;rw[JV.cells]at e1 e2;clear i j h k ht p t b d o a q;refine ja F1 (qa rfl) ?_;exact ua @Da.{0}
def uY(b:Ge lib)(c:kc lib)(a:Qb lib)(d:xq lib)(f:Bool){rc bd:ba}(g:rc.length<=1000)(h:bd.length<=1000)(e:xh rc bd=0):
 da code lib 116 [.agg [.flat (.bool f),.flat (.string (S rc)),.flat (.string (S bd))]] [] []=some ([.flat (.string (S (Xj f rc bd))),.flat (.int .i64 0)],false,[],[]):=by
 have i:za=4294967296:=rfl;have k:(⟨#[]⟩:ByteArray)=S []:=rfl;have e1:=sZ b c a d f g h e;have e2:=WR a rc aa;have j:=vu rc;clear b c a d e;unfold Xj;generalize ic rc=w at*;cases f
 ·have e3:da code lib 186 [.flat (.bool false)] [] []=some ([.flat (.string (S [114,101,115,111,108,118,101,100]))],false,[],[]):=fg ca
  refine ja XO (qa rfl) ?_;exact ua @Da.{0}
 ·have e3:da code lib 186 [.flat (.bool true)] [] []=some ([.flat (.string (S [102,105,114,105,110,103]))],false,[],[]):=fg ca
  refine ja XO (qa rfl) ?_;exact ua @Da.{0}
def wB(l:ba)(f:Bool)(rc bd:ba):Na:=[(40,[.flat (.bool false),.flat (.string (S [])),.flat (.string (S []))]),(197,[.flat (.string (S l)),.flat (.bool f),.flat (.string (S rc)),.flat (.string (S bd))])]
def Vt(c:Yg lib){l w r:ba}{f rc bd}(d:l.length<=1000000){b:Bool}(a:w.isPrefixOf l=b)(hr:(if b=true then l.drop w.length else l)=r):
 da code lib 185 [.ptr 1 0,.flat (.string (S w))] (wB l f rc bd) []=some ([.flat (.bool b)],false,wB r f rc bd,[]):=by
 have h:=Rs c l w aa;have e:(if w.isPrefixOf l=true then l.drop w.length else l)=r:=by rw[a];exact hr
 rw[a]at h;rw[a]at e;rw[e]at h;clear e a hr;refine ja G1 (qa rfl) ?_;exact ua @wB.eq_1
def zdg(c:Yg lib)(e:uq lib)(d:Ko lib)(a:Qb lib){rc r:ba}(h:sd rc=rc)(n:rc.length<=10000)(o:r.length<=10000):
 da code lib 113 [.ptr 1 0] (wB ([123,34,114,101,99,101,105,118,101,114,34,58,34]++(ic rc++(Fc++r))) false [] []) []=some ([.flat (.bool true)],false,wB (Fc++r) false rc [],[]):=by
 have q:=vu rc;have p:Fc.length=12:=rfl;have e1:=Vt c (l:=[123,34,114,101,99,101,105,118,101,114,34,58,34]++(ic rc++(Fc++r))) (w:=[123,34,114,101,99,101,105,118,101,114,34,58,34]) (r:=ic rc++(Fc++r)) (f:=false) (rc:=[]) (bd:=[]) (by simp only[Da,sa,Ca];omega) (b:=true) (by rw[zk];exact rx _ _) rfl;have e2:=IR e (ic rc++(Fc++r)) Fc (by simp only[Da];omega);rw[k6]at e2;have e3:=VU d a (ic rc) aa (NP h);have e4:(ic rc++(Fc++r)).take (ic rc).length=ic rc:=List.take_left;have e5:(ic rc++(Fc++r)).drop (ic rc).length=Fc++r:=es;have e6:(ic rc++(Fc++r)).length=(ic rc).length+(Fc++r).length:=Da;have g:(ic rc).length<=(ic rc++(Fc++r)).length:=aa
 obtain⟨z,j⟩:∃z,Fc++r=z:=⟨_,rfl⟩;rw[j]at e1 e2 e4 e5 e6 g⊢;unfold Fc at e2;generalize ic rc=x at*;obtain⟨y,i⟩:∃y,x++z=y:=⟨_,rfl⟩;rw[i]at e1 e2 e4 e5 e6 g⊢;have k:y.take (x.length+z.length)=y:=xk aa;clear c e d a h j i;simp only[wB,Fa,Ma]at e1⊢;exact xa ZO
def zfD(a:Yg lib){f:Bool}{rc r:ba}(d:r.length<=10000):
 da code lib 114 [.ptr 1 0] (wB (Fc++((if f then[102,105,114,105,110,103]else[114,101,115,111,108,118,101,100])++r)) false rc []) []=some ([.flat (.bool true)],false,wB r f rc [],[]):=by
 have c:za=4294967296:=rfl;have e:da code lib 186 [.flat (.bool true)] [] []=some ([.flat (.string (S [102,105,114,105,110,103]))],false,[],[]):=fg ca;have hF:da code lib 186 [.flat (.bool false)] [] []=some ([.flat (.string (S [114,101,115,111,108,118,101,100]))],false,[],[]):=fg ca;cases f
 ·have e1:=Vt a (l:=Fc++([114,101,115,111,108,118,101,100]++r)) (w:=Fc++[102,105,114,105,110,103]) (r:=Fc++([114,101,115,111,108,118,101,100]++r)) (f:=false) (rc:=rc) (bd:=[]) (by simp[Fc];omega) (b:=false) rfl rfl
  have e2:=Vt a (l:=Fc++([114,101,115,111,108,118,101,100]++r)) (w:=Fc++[114,101,115,111,108,118,101,100]) (r:=r) (f:=false) (rc:=rc) (bd:=[]) (by simp[Fc];omega) (b:=true) rfl rfl;simp only[wB,Fc,Fa,Ma,Ha,if_false]at e1 e2⊢;exact xa aP
 ·have e1:=Vt a (l:=Fc++([102,105,114,105,110,103]++r)) (w:=Fc++[102,105,114,105,110,103]) (r:=r) (f:=false) (rc:=rc) (bd:=[]) (by simp[Fc];omega) (b:=true) rfl rfl
  simp only[wB,Fc,Fa,Ma,if_true]at e1⊢;exact xa aP
def nY(a:Yg lib)(c:Nj lib){f:Bool}{rc bd:ba}(d:bd.length<=10000):
 da code lib 115 [.ptr 1 0] (wB ([34,44,34,98,111,100,121,34,58]++(bd++[125])) f rc []) []=some ([.flat (.bool true)],false,wB (bd++[125]) f rc bd,[]):=by
 have e1:=Vt a (l:=[34,44,34,98,111,100,121,34,58]++(bd++[125])) (w:=[34,44,34,98,111,100,121,34,58]) (r:=bd++[125]) (f:=f) (rc:=rc) (bd:=[]) La (b:=true) rfl rfl;have e2:=kp c (bd++[125]) [125] La;have e3:([125]:ba).isSuffixOf (bd++[125])=true:=by rw[xB];exact List.suffix_append _ _
 have e4:(bd++[125]).take ((bd++[125]).length - ([125]:ba).length)=bd:=by rw[Da,Nat.add_sub_cancel];exact List.take_left
 rw[e3,if_pos rfl,e4]at e2;generalize bd++[125]=y at*;clear e3 e4;simp only[wB,Fa,Ma]at e1⊢;exact xa H1
def zdf(e:Ge lib)(g:kc lib)(b:Qb lib)(h:xq lib)(a:Yg lib)(j:uq lib)(d:Ko lib)(i:Nj lib)(f:Bool){rc bd:ba}(l:rc.length<=1000)(n:bd.length<=1000)(c:xh rc bd=0):
 da code lib 57 [.flat (.string (S (Xj f rc bd)))] [] []=some ([.agg [.flat (.bool f),.flat (.string (S rc)),.flat (.string (S bd))],.flat (.int .i64 0)],false,[],[]):=by
 have p:(⟨#[]⟩:ByteArray)=S []:=rfl;have o:=uY e g b h f l n c;have e1:=zdg a j d b (r:=(if f then[102,105,114,105,110,103]else[114,101,115,111,108,118,101,100])++([34,44,34,98,111,100,121,34,58]++(bd++[125]))) (vD c).1 aa (by cases f<;>simp<;>omega);have e2:=zfD a (f:=f) (rc:=rc) (r:=[34,44,34,98,111,100,121,34,58]++(bd++[125])) La;have e3:=nY a i (f:=f) (rc:=rc) (bd:=bd) aa;have k:Xj f rc bd=[123,34,114,101,99,101,105,118,101,114,34,58,34]++(ic rc++(Fc++((if f then[102,105,114,105,110,103]else[114,101,115,111,108,118,101,100])++([34,44,34,98,111,100,121,34,58]++(bd++[125]))))):=rfl;rw[<-k]at e1;generalize Xj f rc bd=y at*;generalize Fc++((if f then[102,105,114,105,110,103]else[114,101,115,111,108,118,101,100])++([34,44,34,98,111,100,121,34,58]++(bd++[125])))=q at*;generalize [34,44,34,98,111,100,121,34,58]++(bd++[125])=t at*;generalize bd++[125]=u at*;clear k e g b h a j d i c;simp only[wB]at e1 e2 e3;refine ja YO (qa rfl) ?_;exact Cp @lc @Bb @Mb @Zb @Wc eU @BEq.rfl.{0}
def Mt(t:Qa):ba:=if t.kind=34 then[34,34]else if t.kind=48\/t.kind=97 then t.text else[t.kind]
def aq(l:List Qa):ba:=l.flatMap Mt
theorem NQ:∀(l:List Qa)(a:ba),l.foldl (fun a t=>a++Mt t) a=a++aq l
 |[],a=>by simp[aq]
 |t::l,a=>by rw[Pf,NQ l];simp[aq]
def zg6{s:ba}{l}(h:nh s=some l):∀t∈l,t.text.length<=4* s.length+5:=by
 refine rk (step:=yf s) (I:=fun a:List Qa×Nat=>a.2<=s.length/\∀t∈a.1,t.text.length<=4* s.length+5) (μ:=fun a=>s.length - a.2) (Q:=fun r=>∀l,r=some l->∀t∈l,t.text.length<=4* s.length+5) (fun a e=>?_) _ _ ⟨Ab _,ea⟩ wh l h;unfold yf;cases o:s.drop a.2 with
 |nil=>intro l i;cases i;exact e.2
 |cons c r=>
  have i:=gg o;dsimp only;split
  ·rename_i b d
   split at d
   ·cases d;exact⟨⟨wh,e.2⟩,wh⟩
   split at d
   ·cases d
   ·rename_i t ht
    cases d;obtain⟨p,k,u⟩:=Ww ht;refine⟨⟨k,fun x g=>?_⟩,wh⟩;rcases We.1 g with g|g
    ·exact e.2 x g
    rw[Ao.1 g];unfold Jh at ht;rw[o]at ht;dsimp only at ht;split at ht
    ·cases ht;simp
    split at ht
    ·obtain⟨q,j,rfl⟩:=qm ht
     have:q.1.length<=4* q.2:=by
      refine rk (step:=Vi s) (I:=fun a:ba×Nat=>a.2<=s.length/\a.1.length<=4* a.2) (μ:=fun a=>s.length - a.2) (Q:=fun r=>∀q,r=some q->q.1.length<=4* q.2) (fun a e=>?_) _ _ ⟨wh,ea⟩ wh q j;cases hs:Vi s a with
      |inl b=>exact bW a b e hs
      |inr r=>
       intro q j;subst j;unfold Vi at hs;split at hs
       ·cases hs
       ·split at hs
        ·cases hs;dsimp only;omega
        ·split at hs<;>cases hs
     dsimp only at k⊢;omega
    split at ht
    ·rename_i w j
     cases ht;have:w=wT\/w=bi\/w=wN:=by unfold ng at j;grind
     rcases this with rfl|rfl|rfl<;>simp[wT,bi,wN]<;>omega
    ·obtain⟨n,j,rfl⟩:=qm ht
     dsimp only;rw[Ue,sa];omega
  ·rename_i b d
   split at d
   ·cases d
   split at d
   ·cases d;intro l i;cases i
   ·cases d
theorem zd5(v:Qb lib)(f:Bool)(rc bd:ba)(l:List Qa)(G:l.length<=10000)(hs:∀t∈l,t.text.length<=100000):
 da code lib 315 [.agg [.flat (.bool f),.flat (.string (S rc)),.flat (.string (S bd)),.ga l.length (gb l)]] [] []=some ([.flat (.string (S (aq l)))],false,[],[]):=by
 have C:(⟨#[]⟩:ByteArray)=S []:=rfl;have A:za=4294967296:=rfl;have e:∀t∈l,(Mt t).length<=100000:=fun t ht=>by
  have:=hs t ht;unfold Mt;split
  ·simp
  split
  ·omega
  ·simp
 have E:=fun n=>Xc (n:=n) l
 have hrel:=Yn (body:=oa (da code lib) ia NC) (live:=[3,7,8,9]) (nb:=2) (fun(u:Bool)(q:ba×Nat)=>(⟨[(3,.ptr 1 0),(7,.ga l.length (gb l)),(8,.flat (.int .i64 (l.length:Nat))),(9,.flat (.int .i64 (q.2:Nat)))],[.cell 1 1],[],[(127,[.flat (.bool f),.flat (.string (S rc)),.flat (.string (S bd)),.ga l.length (gb l)]),(101,bld u 1 q.1 [])]⟩:St))
  (ug (fun a t=>a++Mt t) l) [] (fun r o st=>o=.exit 0/\∃u,st=⟨[(3,.ptr 1 0)],[.cell 1 1],[],[(127,[.flat (.bool f),.flat (.string (S rc)),.flat (.string (S bd)),.ga l.length (gb l)]),(101,bld u 1 r [])]⟩) (fun q=>q.2<=l.length/\q.1.length<=100000* q.2) (fun q=>l.length - q.2) (fun u ⟨out,j⟩ B=>?_) (fun a b d h=>?_) (n:=l.length+1) (m:=ia) false ([],0) ⟨Ab _,ea⟩ aa (by grind [ia])
 ·obtain⟨o,st,d,rfl,u,rfl⟩:=hrel
  rw[Bp aa,zf,NQ,Ma]at d;have g:=tl (lib:=lib) (oc:=[.cell 1 1]) v (bx:=[(127,[.flat (.bool f),.flat (.string (S rc)),.flat (.string (S bd)),.ga l.length (gb l)]),(101,bld u 1 (aq l) [])]) (b:=1) rfl ea;simp only[n0,show bld false 1 [] []=[.flat (.pointer none),.ga 0 []]from rfl]at d;exact xa W0
 ·dsimp only at B⊢
  unfold ug;dsimp only;cases p:l[j]? with
  |none=>
   have:=Bl.1 p;exact rv (o:=.exit 0) (s:=⟨[(3,.ptr 1 0)],[.cell 1 1],[],[(127,[.flat (.bool f),.flat (.string (S rc)),.flat (.string (S bd)),.ga l.length (gb l)]),(101,bld u 1 out [])]⟩) (ua lw) ea ⟨rfl,u,rfl⟩
  |some t=>
   have fa:=(qg p).1;have e1:=Nl p;have ht:=e t (di p);have d:=fun w h=>cj v (bx:=[(127,[.flat (.bool f),.flat (.string (S rc)),.flat (.string (S bd)),.ga l.length (gb l)]),(101,bld u 1 out []),(203,Pe t)]) (b:=1) (u:=u) (l:=out) (m:=w) (r:=[]) (rest:=[]) rfl Wk h (fun q k=>by cases k) (fun q k=>by cases k)
   have g:=fun c h=>hx v (bx:=[(127,[.flat (.bool f),.flat (.string (S rc)),.flat (.string (S bd)),.ga l.length (gb l)]),(101,bld u 1 out []),(203,Pe t)]) (b:=1) (u:=u) (l:=out) (c:=c) (r:=[]) (rest:=[]) rfl Wk h (fun q k=>by cases k) (fun q k=>by cases k)
   have F:∀w,Ia 2 (bld true 1 w [])=true:=fun w=>iy ha rfl
   clear hs e p v C;obtain⟨c,D,fr,to⟩:=t;refine⟨true,?_⟩;unfold Mt at ht⊢;dsimp only at ht⊢;simp only[Pe,Fa,Ma,Zo,List.set_cons_succ,List.set_cons_zero]at e1 d g;by_cases g1:c=34
   ·subst g1
    rw[if_pos rfl]at ht⊢;have w:=d [34,34] La;clear d g;simp only[show((UInt8.toNat 34:Nat):Int)=34 from rfl]at w;exact ua lw
   have x:=toNat_ne g1;simp only[show((UInt8.toNat 34:Nat):Int)=34 from rfl]at x;rw[if_neg g1]at ht⊢;by_cases i:c=48\/c=97
   ·rw[if_pos i]at ht⊢
    have w:=d D aa;clear d g;rcases i with rfl|rfl
    ·simp only[show((UInt8.toNat 48:Nat):Int)=48 from rfl]at w
     exact ua lw
    ·simp only[show((UInt8.toNat 97:Nat):Int)=97 from rfl]at w
     exact ua lw
   ·rw[if_neg i]at ht⊢
    rw[not_or]at i;have y:=toNat_ne i.1;have z:=toNat_ne i.2;simp only[show((UInt8.toNat 48:Nat):Int)=48 from rfl,show((UInt8.toNat 97:Nat):Int)=97 from rfl]at y z;have w:=g c aa;clear d g i;exact ua lw
 ·obtain⟨i,d,t,ht,g⟩:=gr a b h
  have:=e t (di ht);rw[d,g];simp only[Da];omega
theorem n_{a k b:Nat}{c}:List.lookup a ((k,b)::c)=if a=k then some b else List.lookup a c:=by
 rw[List.lookup_cons];by_cases h:a=k
 ·subst h;simp
 ·rw[if_neg h,show(a==k)=false by simpa using h]
theorem SX{α β:Type}{a:α}{f:α->Option β}:(some a).bind f=f a:=rfl
attribute [go_sem] n_ SX
def de(H:Nat×List PV)(out:List ba)(ys:Na):Na:=(29,[.ga out.length (va out)])::H::(0,[.lp 10 0 .ready [8] [.ptr 0 0]])::ys
def im{H:Nat×List PV}{out:List ba}{x:ba}{ys}(g:out.length<=1000000):da code lib hb [.Oa 2,.flat (.string (S x))] (de H out ys) [.cell 0 0]=some ([.flat (.bool true)],false,de H (out++[x]) ys,[.cell 0 0]):=by
 have a:za=4294967296:=rfl;refine vp ip Qq rfl rfl rfl ?_;have b:va out++[.flat (.string (S x))]=va (out++[x]):=by simp[va]
 have c:(out++[x]).length=out.length+1:=ea
 have d:=dd (l:=out);have e:=Mf out;exact ye @mR.eq_1 @WQ.eq_1 @de.eq_1
def gq(a:List ba)(t:Qa):List ba:=if t.kind=34 then a++[t.text]else a
def fq(rc bd:ba)(l:List Qa):List ba:=l.foldl gq [rc,bd]
abbrev Un(f:Bool)(rc bd:ba)(l:List Qa):Nat×List PV:=(127,[.flat (.bool f),.flat (.string (S rc)),.flat (.string (S bd)),.ga l.length (gb l)])
def zgj(f:Bool)(rc bd:ba)(l:List Qa)(p:l.length<=10000):da code lib 317 [.Oa 2,.ptr 1 0] (de (Un f rc bd l) [] []) [.cell 0 0]=some ([],false,de (Un f rc bd l) (fq rc bd l) [],[.cell 0 0]):=by
 have i:=fun n=>Xc (n:=n) l
 have hrel:=Yn (body:=oa (da code lib) ia OC) (live:=[0,20,21,22]) (nb:=3) (fun(_:Unit)(q:List ba×Nat)=>(⟨[(0,.Oa 2),(20,.ga l.length (gb l)),(21,.flat (.int .i64 (l.length:Nat))),(22,.flat (.int .i64 (q.2:Nat)))],[.cell 0 0],[],de (Un f rc bd l) q.1 []⟩:St))
  (ug gq l) [] (fun r o st=>o=.exit 0/\st=⟨[],[.cell 0 0],[],de (Un f rc bd l) r []⟩) (fun q=>q.2<=l.length/\q.1.length<=q.2+2) (fun q=>l.length - q.2) (fun _ ⟨out,j⟩ g=>?_) (fun a b d h=>?_) (n:=l.length+1) (m:=ia) () ([rc,bd],0) ⟨Ab _,ea⟩ aa (by grind [ia])
 ·obtain⟨o,st,d,rfl,rfl⟩:=hrel
  rw[Bp aa,zf]at d;have r1:=im (lib:=lib) (H:=Un f rc bd l) (out:=[]) (x:=rc) (ys:=[]) ea;have r2:=im (lib:=lib) (H:=Un f rc bd l) (out:=[rc]) (x:=bd) (ys:=[]) ea;unfold fq;generalize l.foldl gq [rc,bd]=L at*;simp only[de,n0,Ma,Fa,Ca,sa,Zc,Nat.reduceAdd]at d r1 r2⊢;exact xa X0
 ·dsimp only at g⊢
  unfold ug;dsimp only;cases d:l[j]? with
  |none=>
   have:=Bl.1 d;exact Kb UH @de.eq_1
  |some t=>
   have fa:=(qg d).1;have e1:=Nl d;have r1:=im (lib:=lib) (H:=Un f rc bd l) (out:=out) (x:=t.text) (ys:=[(203,Pe t)]) aa;have k:=fun n L=>ed (n:=n) L
   clear d;obtain⟨c,u,fr,to⟩:=t;refine⟨(),?_⟩;simp only[Pe,Fa,Ma,de]at e1 r1;unfold gq;dsimp only;by_cases g1:c=34
   ·subst g1
    rw[if_pos rfl];simp only[show((UInt8.toNat 34:Nat):Int)=34 from rfl]at r1;exact Kb UH @de.eq_1
   ·have e:=toNat_ne g1
    simp only[show((UInt8.toNat 34:Nat):Int)=34 from rfl]at e;rw[if_neg g1];exact Kb UH @de.eq_1
 ·obtain⟨k,d,t,ht,e⟩:=gr a b h
  rw[d,e];unfold gq;split
  ·simp only[Da,sa,Ca];omega
  ·omega
def yI(b:Ge lib)(c:kc lib)(a:Qb lib)(g:xq lib)(d:Yg lib)(i:uq lib)(e:Ko lib)(h:Nj lib)(f:Bool){rc bd:ba}{l:List Qa}(k:rc.length<=1000)(o:bd.length<=1000)(j:xh rc bd=0)(ht:nh bd=some l):
 da code lib 24 [.flat (.int .i64 2),.flat (.string (S (Xj f rc bd)))] [] []=some ([.tag 255 [.agg [.flat (.bool f),.flat (.string (S rc)),.flat (.string (S bd)),.ga l.length (gb l)]],.flat (.int .i64 0)],false,[],[]):=by
 have r:(⟨#[]⟩:ByteArray)=S []:=rfl;have e1:=zdf b c a g d i e h f k o j;have e2:=lJ b c a (s:=bd) aa ht;have p:=fun n=>Xc (n:=n) l
 have q:=Mg l;generalize Xj f rc bd=y at*;clear b c a g d i e h j ht;exact xa Ps
def zd6(a:Qb lib)(f:Bool){rc bd y:ba}{l:List Qa}(b:l.length<=10000)(hs:∀t∈l,t.text.length<=100000)
 (hr:da code lib 24 [.flat (.int .i64 2),.flat (.string (S y))] [] []=some ([.tag 255 [.agg [.flat (.bool f),.flat (.string (S rc)),.flat (.string (S bd)),.ga l.length (gb l)]],.flat (.int .i64 0)],false,[],[])):
 da code lib 11 [.flat (.int .i64 2),.flat (.string (S y))] [] []=some ([.flat (.string (S (aq l))),.flat (.int .i64 0)],false,[],[]):=by
 have e:(⟨#[]⟩:ByteArray)=S []:=rfl;have e1:=zd5 a f rc bd l b hs;have c:=fun n=>Xc (n:=n) l
 have d:=Mg l;clear hs;exact xa V0
def pW(f:Bool){rc bd y:ba}{l:List Qa}(a:l.length<=10000)
 (hr:da code lib 24 [.flat (.int .i64 2),.flat (.string (S y))] [] []=some ([.tag 255 [.agg [.flat (.bool f),.flat (.string (S rc)),.flat (.string (S bd)),.ga l.length (gb l)]],.flat (.int .i64 0)],false,[],[])):
 da code lib 10 [.flat (.int .i64 2),.flat (.string (S y))] [] []=some ([.ga (fq rc bd l).length (va (fq rc bd l)),.flat (.int .i64 0)],false,[],[]):=by
 have e:(⟨#[]⟩:ByteArray)=S []:=rfl;have b:=fun n=>Xc (n:=n) l
 have c:=Mg l;have e1:da code lib 316 [.agg [.flat (.bool f),.flat (.string (S rc)),.flat (.string (S bd)),.ga l.length (gb l)]] [] []=some ([.cb 317 [.ptr 0 0]],false,[Un f rc bd l],[]):=xa OO;have e2:da code lib 316 [.agg [.flat (.bool f),.flat (.string (S rc)),.flat (.string (S bd)),.ga l.length (gb l)]] [(29,[.ga 0 []])] [.cell 0 0]=some ([.cb 317 [.ptr 1 0]],false,[(29,[.ga 0 []]),Un f rc bd l],[.cell 0 0]):=xa OO;have e3:=zgj (lib:=lib) f rc bd l a;have d:=fun n=>ed (n:=n) (fq rc bd l)
 generalize fq rc bd l=L at*;simp only[de,show va []=[]from rfl,Ca]at e3;exact xa Qq
def bo(c:UInt8):Bool:=!((decide ((c.toNat|||32)<97)||decide (122<(c.toNat|||32)))&&((decide (c.toNat<48)||decide (57<c.toNat))&& !decide (c.toNat=45)))
def Tn(s:ba)(k:Nat):St:=⟨[(0,.flat (.string (S s))),(6,.flat (.int .i64 (s.length:Nat))),(7,.flat (.int .i64 (k:Nat)))],[],[],[]⟩
def W_(s)(k)(c)(u:k<s.length)(hs:s.length<=1000000000)(o:s[k]?=some c):oa (da code lib) ia Xx (Tn s k)=if bo c then some (.normal,Tn s (k+1))else some (.ret,⟨[(2,.flat (.bool false))],[],[],[]⟩):=by
 have c1:(k:Int)<s.length:=aa
 have c2:(0:Int)<=(k:Nat):=aa
 have t:IntKind.i64.wrap ((k:Int)+1)=((k+1:Nat):Int):=wrap64 aa;have q:=c.toNat_lt;have o1:Dg .u8 (c.toNat:Int) 32=((c.toNat|||32:Nat):Int):=u8_or c.toNat 32 aa aa;obtain⟨m,r⟩:∃m,c.toNat|||32=m:=⟨_,rfl⟩;obtain⟨n,a⟩:∃n,c.toNat=n:=⟨_,rfl⟩;unfold bo;rw[r]at o1⊢;rw[a]at o1⊢;have e:((m:Int)<97)=(m<97):=by apply propext;omega
 have g:((122:Int)<m)=(122<m):=by apply propext;omega
 have i:((n:Int)<48)=(n<48):=by apply propext;omega
 have j:((57:Int)<n)=(57<n):=by apply propext;omega
 have l:((n:Int)=45)=(n=45):=by apply propext;omega
 by_cases b:m<97<;>by_cases d:122<m<;>by_cases a3:n<48<;>by_cases a4:57<n<;>by_cases a5:(n=45)=True
 all_goals first
  |(exfalso;omega)
  |skip
 all_goals
  first
   |(simp only[GH,Tn,go_sem,simprocAttr,c1,c2,kd,gc,o,hh,a,o1,e,g,i,j,l,b,d,a3,a4,a5,t,tn,Wg,vn];done)
   |(have p:¬n=45:=fun h=>a5 (eq_true h)
     simp only[GH,Tn,go_sem,simprocAttr,c1,c2,kd,gc,o,hh,a,o1,e,g,i,j,l,b,d,a3,a4,p,tn,Wg,vn])
def Hf(s:ba):Bool:=s.all bo&&(!decide (s=[])&&decide (s.length<=32))
def eT(s)(hs:s.length<=1000000000):da code lib 40 [.flat (.string (S s))] [] []=some ([.flat (.bool (Hf s))],false,[],[]):=by
 refine ja LZ (qa rfl) ?_
 have b:=Dh (body:=oa (da code lib) ia Xx) (live:=[0,6,7]) (nb:=0) (Tn s) (fun k=>k<=s.length) (fun k=>s.length - k)
  (fun k=>if(s.drop k).all bo then(.exit 0,⟨[(0,.flat (.string (S s)))],[],[],[]⟩)else(.ret,⟨[(2,.flat (.bool false))],[],[],[]⟩)) (fun k c=>?_) (n:=ia) (a:=0) (Ab _) (by grind [ia])
 ·simp only[Tn,zf,n0]at b
  have g:(⟨#[]⟩:ByteArray)=S []:=rfl;cases d:s.all bo with
  |true=>
   simp only[d,if_true]at b;by_cases e:s=[]
   ·have c:=eq_true e
    simp only[go_sem,simprocAttr,Ua,b,g,Mo,Hf,d,c]
   ·by_cases h:s.length<=32
    ·have c:(s.length:Int)<=32:=aa
     exact ua @Hf.eq_1
    ·have c:¬(s.length:Int)<=32:=aa
     exact ua @Hf.eq_1
  |false=>
   simp only[d,Ha,if_false]at b;exact ua @Hf.eq_1
 ·by_cases fa:k<s.length
  ·have d:=qe fa
   have e:=Qd fa;have hr:=W_ (lib:=lib) s k s[k] fa hs d;cases c:bo s[k]with
   |true=>
    right;rw[c,if_pos rfl]at hr;exact⟨Tn s (k+1),k+1,hr,by simp only[Tn,go_sem,simprocAttr],fa,aa,by rw[e,Ck,c,pd]⟩
   |false=>
    left;rw[c]at hr;exact⟨.ret,_,hr,ea,la⟩
  ·left
   obtain rfl:k=s.length:=aa
   have c1:¬(s.length:Int)<s.length:=aa
   refine⟨.exit 0,⟨[(0,.flat (.string (S s)))],[],[],[]⟩,?_,ea,ea⟩;exact Kb GH @Tn.eq_1
def ek(w:ba)(long:Nat):Bool:=decide (76<=w.length+long)
def qk(l w:ba)(long:Nat):ba:=(if ek w long then l++[13,10]else l)++(32::w)
def ll(w:ba)(long:Nat):Nat:=(if ek w long then 0 else long)+(1+w.length)
def zcP(F:Qb lib){bx}{r}{b e}{u}{l w}{long}(v:bx[b]?=some (e,bld u b l [.flat (.int .i64 (long:Nat))]))(M:ck e 3)(hs:l.length+w.length<=1000000000)(T:long<=1000000000)(hr:∀q∈r,q≠(b,1))(A:∀q∈r,q≠(b,2))(fa:∀q∈r,q.1<bx.length):
 da code lib 164 [.ptr b 0,.flat (.string (S w))] bx (.cell b 1::cl r)=some ([],false,bx.set b (e,bld true b (qk l w long) [.flat (.int .i64 (ll w long:Nat))]),.cell b 1::cl r):=by
 refine ja KZ (qa rfl) ?_;have g:=(qg v).1;have K:∃E,bx[b]?=some (e,E::.ga l.length (Td l)::[.flat (.int .i64 (long:Nat))])/\(E=.ptr b 0\/E=.flat (.pointer none)):=by
  cases u
  ·exact⟨_,v,.inr rfl⟩
  ·exact⟨_,v,.inl rfl⟩
 obtain⟨E,x,z⟩:=K;have Q:IntKind.i64.wrap (76 - (long:Int))=76 - (long:Int):=wrap64 aa;have R:IntKind.i64.wrap (1+(w.length:Int))=((1+w.length:Nat):Int):=by rw[wrap64 aa];rfl
 have U:IntKind.i64.wrap ((long:Int)+((1+w.length:Nat):Int))=((long+(1+w.length):Nat):Int):=wrap64 aa;have V:IntKind.i64.wrap (0+((1+w.length:Nat):Int))=((0+(1+w.length):Nat):Int):=wrap64 aa;have L:(⟨#[13,10]⟩:ByteArray)=S [13,10]:=rfl;have B:(⟨#[32]⟩:ByteArray)=S [32]:=rfl;have C:1+w.length<=za:=Ie
 by_cases h:76<=w.length+long
 ·have G:76 - (long:Int)<=w.length:=aa
  have j:ek w long=true:=by simp[ek,h]
  have D:=cj (lib:=lib) (r:=r) (m:=[13,10]) F v M (by grind [za]) hr fa;obtain⟨c,H⟩:∃c,bx.set b (e,bld true b (l++[13,10]) [.flat (.int .i64 (long:Nat))])=c:=⟨_,rfl⟩;have J:c[b]?=some (e,.ptr b 0::.ga (l++[13,10]).length (Td (l++[13,10]))::[.flat (.int .i64 (long:Nat))]):=by rw[<-H,Vg g];rfl
  have N:c.length=bx.length:=by rw[<-H,Kc]
  obtain⟨d,I⟩:∃d,c.set b (e,.ptr b 0::.ga (l++[13,10]).length (Td (l++[13,10]))::[.flat (.int .i64 0)])=d:=⟨_,rfl⟩;have y:d[b]?=some (e,bld true b (l++[13,10]) [.flat (.int .i64 0)]):=by rw[<-I,Vg aa];rfl
  have O:d.length=bx.length:=by rw[<-I,Kc,N]
  have n:=cj (lib:=lib) (r:=r) (m:=32::w) F y M (by grind [za]) hr la;obtain⟨a,o⟩:∃a,d.set b (e,bld true b (l++[13,10]++(32::w)) [.flat (.int .i64 0)])=a:=⟨_,rfl⟩;have p:a[b]?=some (e,.ptr b 0::.ga (l++[13,10]++(32::w)).length (Td (l++[13,10]++(32::w)))::[.flat (.int .i64 0)]):=by rw[<-o,Vg aa];rfl
  have P:a.length=bx.length:=by rw[<-o,Kc,O]
  have k:∀q,a.set b q=bx.set b q:=fun q=>by grind [List.set_set]
  rw[H]at D;rw[o]at n;have i:qk l w long=l++[13,10]++(32::w):=by simp only[qk,j,if_true]
  have t:ll w long=0+(1+w.length):=by simp only[ll,j,if_true]
  rw[i,t];rcases z with rfl|rfl<;>simp only[go_sem,simprocAttr,x,J,y,p,I,D,n,G,Q,R,V,L,B,C,Ua,Pj,ob,Ib,Db,Rb,rg r A,pb r fa,g,Kc,k,Bc]
  all_goals (try rfl)
 ·have G:¬76 - (long:Int)<=w.length:=aa
  have j:ek w long=false:=by simp[ek,h]
  have n:=cj (lib:=lib) (r:=r) (m:=32::w) F v M (by grind [za]) hr fa;obtain⟨a,o⟩:∃a,bx.set b (e,bld true b (l++(32::w)) [.flat (.int .i64 (long:Nat))])=a:=⟨_,rfl⟩;have p:a[b]?=some (e,.ptr b 0::.ga (l++(32::w)).length (Td (l++(32::w)))::[.flat (.int .i64 (long:Nat))]):=by rw[<-o,Vg aa];rfl
  have P:a.length=bx.length:=by rw[<-o,Kc]
  have k:∀q,a.set b q=bx.set b q:=fun q=>by grind [List.set_set]
  rw[o]at n;have i:qk l w long=l++(32::w):=by simp only[qk,j,Ha,if_false]
  have t:ll w long=long+(1+w.length):=by simp only[ll,j,Ha,if_false]
  rw[i,t];rcases z with rfl|rfl<;>simp only[go_sem,simprocAttr,x,p,n,G,Q,R,U,B,C,Ua,Pj,ob,Ib,Db,Rb,rg r A,pb r fa,g,Kc,k,Bc]
  all_goals (try rfl)
def dH:ck 236 3:=by unfold ck;kernel_rfl
def mn(s:ba)(k:Nat)(c:UInt8)(long:Nat):Bool:=(decide (c.toNat=32)&&decide (long=0))||(decide (c.toNat<32)||(decide (126<c.toNat)||Ub s [61,63] k))
def Eh(c:UInt8)(long:Nat):Nat:=if c.toNat=32 then 0 else long+1
def Dp(s:ba)(q:Nat×Nat):St:=⟨[(0,.flat (.string (S s))),(3,.flat (.int .i64 (q.2:Nat))),(9,.flat (.int .i64 (s.length:Nat))),(10,.flat (.int .i64 (q.1:Nat)))],[],[],[]⟩
theorem plain_round(H:kc lib)(s)(k long)(c)(u:k<s.length)(hs:s.length<=1000000000)(v:long<=60)(p:s[k]?=some c):
 oa (da code lib) ia Vx (Dp s (k,long))=if mn s k c long||decide (60<Eh c long)then some (.ret,⟨[(2,.flat (.bool false))],[],[],[]⟩)else some (.normal,Dp s (k+1,Eh c long)):=by
 have c1:(k:Int)<s.length:=aa
 have c2:(0:Int)<=(k:Nat):=aa
 have r:IntKind.i64.wrap ((k:Int)+1)=((k+1:Nat):Int):=wrap64 aa;have t:IntKind.i64.wrap ((long:Int)+1)=((long+1:Nat):Int):=wrap64 aa;have q:(⟨#[61,63]⟩:ByteArray)=S [61,63]:=rfl;have e:=bD (lib:=lib) H s [61,63] k hs ea;obtain⟨n,g⟩:∃n,c.toNat=n:=⟨_,rfl⟩;obtain⟨b,d⟩:∃b,Ub s [61,63] k=b:=⟨_,rfl⟩;unfold mn Eh;rw[d]at e⊢;rw[g];have h:((n:Int)=32)=(n=32):=by apply propext;omega
 have i:((n:Int)<32)=(n<32):=by apply propext;omega
 have j:((126:Int)<n)=(126<n):=by apply propext;omega
 have l:((long:Int)=0)=(long=0):=by apply propext;omega
 have o:((60:Int)<((long+1:Nat):Int))=(60<long+1):=by apply propext;omega
 have w:¬(n=32)->(n=32)=False:=eq_false;rcases mb (n=32)with a|a<;>rcases mb (n<32)with a2|a2<;>rcases mb (126<n)with a3|a3<;>rcases mb (long=0)with a4|a4<;>rcases mb (60<long+1)with a5|a5<;>cases b
 all_goals first
  |(exfalso;omega)
  |skip
 all_goals
  first|have e1:=eq_false a|have e1:=eq_true a
  first|have e2:=eq_false a2|have e2:=eq_true a2
  first|have e3:=eq_false a3|have e3:=eq_true a3
  first|have e4:=eq_false a4|have e4:=eq_true a4
  first|have e5:=eq_false a5|have e5:=eq_true a5
  clear a a2 a3 a4 a5;simp only[OT,Dp,go_sem,simprocAttr,c1,c2,kd,gc,p,hh,g,h,i,j,l,o,e1,e2,e3,e4,e5,r,t,q,e,n0,tn,vn]
def Jg(s:ba)(k long:Nat):ba->Option Nat
 |[]=>some long
 |c::t=>if mn s k c long||decide (60<Eh c long)then none else Jg s (k+1) (Eh c long) t
def Ni(s:ba):Bool:=decide (s=[])||(match Jg s 0 0 s with|none=>false|some n=>decide (0<n))
def zcB(H:kc lib)(s)(hs:s.length<=1000000000):da code lib 230 [.flat (.string (S s))] [] []=some ([.flat (.bool (Ni s))],false,[],[]):=by
 refine ja FZ (qa rfl) ?_;have p:(⟨#[]⟩:ByteArray)=S []:=rfl;by_cases e:s=[]
 ·subst e
  exact ua @Ni.eq_1
 have b:=Dh (body:=oa (da code lib) ia Vx) (live:=[0,3,9,10]) (nb:=0) (Dp s) (fun q=>q.1<=s.length/\q.2<=60) (fun q=>s.length - q.1)
  (fun q=>match Jg s q.1 q.2 (s.drop q.1)with|some n=>(.exit 0,⟨[(3,.flat (.int .i64 (n:Nat)))],[],[],[]⟩)|none=>(.ret,⟨[(2,.flat (.bool false))],[],[],[]⟩)) (fun q o=>?_) (n:=ia) (a:=(0,0)) ⟨Ab _,Ab _⟩ (by grind [ia])
 ·simp only[Dp,zf,n0]at b
  have c:=eq_false e;simp only[Ni,c,decide_false,Wg];cases g:Jg s 0 0 s with
  |none=>
   simp only[g]at b;exact ta
  |some n=>
   simp only[g]at b;have d:((0:Int)<(n:Nat))=(0<n):=by apply propext;omega
   exact ta
 ·obtain⟨k,long⟩:=q
  obtain⟨j,g⟩:=o;simp only at j g;by_cases fa:k<s.length
  ·have h:=qe fa
   have i:=Qd fa;have hr:=plain_round H s k long s[k] fa hs g h;cases c:mn s k s[k] long||decide (60<Eh s[k] long)with
   |false=>
    right;rw[c]at hr;have l:Eh s[k] long<=60:=by simp only[yB,decide_eq_false_iff_not]at c;omega
    exact⟨Dp s (k+1,Eh s[k] long),(k+1,Eh s[k] long),hr,by simp only[Dp,go_sem,simprocAttr],⟨fa,l⟩,by simp only;omega,by simp only[i,Jg,c,Ha,if_false]⟩
   |true=>
    left;rw[c]at hr;exact⟨.ret,_,hr,ea,by grind [Jg]⟩
  ·left
   obtain rfl:k=s.length:=aa
   have c1:¬(s.length:Int)<s.length:=aa
   refine⟨.exit 0,⟨[(3,.flat (.int .i64 (long:Nat)))],[],[],[]⟩,?_,ea,by grind [Jg]⟩;exact Kb OT @Dp.eq_1
variable {lib:Callee}
def dj(lib:Callee)(enc:ba->ba):Prop:=∀s:ba,s.length<=100->(enc s).length<=136/\lib 232 [.flat (.string (S s))] [] []=some ([.flat (.string (S (enc s)))],false,[],[])
def uK{enc}(H:dj lib enc)(s:ba)(h:s.length<=100):da code lib 232 [.flat (.string (S s))] [] []=some ([.flat (.string (S (enc s)))],false,[],[]):=
 tf ha pa (H s h).2
def Md:ba:=[61,63,85,84,70,45,56,63,66,63]
def Gc(enc:ba->ba)(g:ba):ba:=Md++enc g++[63,61]
def Kg(enc:ba->ba):ba->List Nat->List ba
 |now,[]=>[Gc enc now]
 |now,r::l=>if 45<now.length+(Ka r).length then Gc enc now::Kg enc (Ka r) l else Kg enc (now++Ka r) l
def Ed(enc:ba->ba)(s:ba):List ba:=if s=[]then[]else if Ni s then db 32 s else Kg enc [] (Kd s)
theorem Zu{enc}(H:dj lib enc){g}(h:g.length<=100):(Gc enc g).length<=200:=by
 have:=(H g h).1
 grind [Gc,Md,List.length_cons]
theorem EE(enc):∀(l)(a),(Kg enc a l).length<=l.length+1
 |[],a=>by simp[Kg]
 |r::l,a=>by
  simp only[Kg];split
  ·have:=EE enc l (Ka r);grind
  ·have:=EE enc l (a++Ka r);grind
theorem av(c):∀s,(db c s).length<=s.length+1
 |[]=>by simp[db]
 |x::l=>by
  have:=av c l
  grind [db]
theorem Ey(c):∀(s x),x∈db c s->x.length<=s.length
 |[],x,h=>by grind [db]
 |y::l,x,h=>by
  have:=Ey c l
  grind [db]
theorem KI:∀(n)(s),s.length<=n->(jf s).length<=s.length
 |_,[],_=>by simp[LI]
 |0,_::_,h=>by simp at h
 |n+1,c::l,h=>by
  have a:=Vq c l;have b:((c::l).drop (Sa (c::l)).2).length<=l.length:=by rw[fc];simp only[sa];omega
  have:=KI n ((c::l).drop (Sa (c::l)).2) la
  grind [Cw]
theorem jV:∀(n)(s),s.length<=n->∀q∈jf s,q.1<8388608
 |_,[],_,q,a=>by grind [LI]
 |0,_::_,h,q,a=>by simp at h
 |n+1,c::l,h,q,a=>by
  have b:=Vq c l;rw[Cw]at a;rcases wb.1 a with rfl|a
  ·exact Uq _
  ·exact jV n _ la q a
theorem NU:∀a,Eb (Yd a)=true
 |[]=>rfl
 |c::a=>by show Eb (.flat (.int .i32 (c:Nat))::Yd a)=true;simp only[Eb,PV.sj,NU a,pd]
def zH(s):(Kd s).length<=s.length:=by
 unfold Kd;rw[qn];exact KI _ s (Aa _)
def zaE(s)(x)(h:x∈Kd s):x<8388608:=by
 unfold Kd at h;obtain⟨q,a,rfl⟩:=zi.1 h;exact jV _ s (Aa _) q a
section
variable {α:Type} (BX:α→Na) (oc:α→List (Nat × Nat)) (step:α→ba→α) (I:α→Nat→Prop) (b p nb:Nat)
def zif(c:∀a,(BX a).length=nb)(l:∀a,∀q∈oc a,q.1<nb)(N)
 (r:∀a k x,I a k->k<N->x.length<=10000->I (step a x) (k+1))
 (w:∀a k x,I a k->k<N->x.length<=10000->da code lib hb [.Oa b,.flat (.string (S x))] (BX a) (cl (oc a))=some ([.flat (.bool true)],false,BX (step a x),cl (oc (step a x))))
 (L) (z:L.length<=N) (t:L.length<=1000000) (v:∀x∈L,x.length<=10000) (a) (d:I a 0) (A:L.length<ia):
 Cc (oa (da code lib) ia Yx) [0,14,15,16] nb ia ⟨[(0,.Oa b),(14,.ga L.length (va L)),(15,.flat (.int .i64 (L.length:Nat))),(16,.flat (.int .i64 0))],cl (oc a),[],BX a⟩=
  some (.exit 0,⟨[],cl (oc (L.foldl step a)),[],BX (L.foldl step a)⟩):=by
 have j:=Dh (body:=oa (da code lib) ia Yx) (live:=[0,14,15,16]) (nb:=nb) (fun q:α×Nat=>(⟨[(0,.Oa b),(14,.ga L.length (va L)),(15,.flat (.int .i64 (L.length:Nat))),(16,.flat (.int .i64 (q.2:Nat)))],cl (oc q.1),[],BX q.1⟩:St)) (fun q=>I q.1 q.2/\q.2<=L.length) (fun q=>L.length - q.2)
  (fun q=>(.exit 0,⟨[],cl (oc ((L.drop q.2).foldl step q.1)),[],BX ((L.drop q.2).foldl step q.1)⟩)) (fun⟨a,k⟩ d=>?_) (n:=ia) (a:=(a,0)) ⟨d,Ab _⟩ aa
 ·grind
 ·dsimp only at d⊢
  obtain⟨d,C⟩:=d;have g:=c a;by_cases fa:k<L.length
  ·right
   have B:=qe fa;have u:=Qd fa;have e:=v _ (List.getElem_mem fa);have c1:(k:Int)<L.length:=aa
   have c2:(0:Int)<=(k:Nat):=aa
   have y:IntKind.i64.wrap ((k:Int)+1)=((k+1:Nat):Int):=wrap64 aa;have o:(va L).drop k=.flat (.string (S L[k]))::(va L).drop (k+1):=by simp only[va,<-rm,u,Xb]
   have i:1<=((va L).drop (k+1)).length+1:=aa
   have p:=w a k L[k] d aa e;have h:=c (step a L[k]);refine⟨⟨[(0,.Oa b),(14,.ga L.length (va L)),(15,.flat (.int .i64 (L.length:Nat))),(16,.flat (.int .i64 ((k+1:Nat):Int)))],cl (oc (step a L[k])),[],BX (step a L[k])⟩,(step a L[k],k+1),?_,?_,⟨r a k _ d aa e,fa⟩,aa,la⟩
   ·simp only[PT,go_sem,simprocAttr,Jb,ob,Ib,Db,Rb,c1,c2,y,o,i,sa,p,gc,Ce g,g,h,Bc]
   ·simp only[go_sem,simprocAttr,Jb,ob,Ce h,h,pb _ (l _)]
  ·left
   obtain rfl:k=L.length:=aa
   have c1:¬(L.length:Int)<L.length:=aa
   refine⟨.exit 0,⟨[],cl (oc a),[],BX a⟩,?_,ea,ea⟩;simp only[PT,go_sem,simprocAttr,Jb,ob,Ib,Db,Rb,c1,Ce g,g,Bc]
def Me(enc:ba->ba):α->ba->List Nat->α×ba
 |a,b,[]=>(a,b)
 |a,b,r::l=>if 45<b.length+(Ka r).length then Me enc (step a (Gc enc b)) (Ka r) l else Me enc a (b++Ka r) l
theorem fz(enc):∀(l)(a)(b),(Kg enc b l).foldl step a=step (Me step enc a b l).1 (Gc enc (Me step enc a b l).2)
 |[],a,b=>rfl
 |r::l,a,b=>by
  simp only[Kg,Me];split
  ·rw[Pf];exact fz enc l _ _
  ·exact fz enc l _ _
theorem zig{enc}(y:dj lib enc)(i:∀a,(BX a).length=nb)(u:∀a,∀q∈oc a,q.1<nb)(N)
 (F:∀a k x,I a k->k<N->x.length<=10000->I (step a x) (k+1))
 (W:∀a k x,I a k->k<N->x.length<=10000->da code lib hb [.Oa b,.flat (.string (S x))] (BX a) (cl (oc a))=some ([.flat (.bool true)],false,BX (step a x),cl (oc (step a x))))
 (L) (Z:L.length<=N) (O:L.length<=1000000) (V:∀x∈L,x<2147483648) (a) (h:I a 0) (hNZ:L.length<ia):
 Cc (oa (da code lib) ia Zx) [0,5,26,27,28] nb ia ⟨[(0,.Oa b),(5,.flat (.string (S []))),(26,.ga L.length (Yd L)),(27,.flat (.int .i64 (L.length:Nat))),(28,.flat (.int .i64 0))],cl (oc a),[],BX a⟩=
  some (.exit 2,⟨[(0,.Oa b),(5,.flat (.string (S (Me step enc a [] L).2)))],cl (oc (Me step enc a [] L).1),[],BX (Me step enc a [] L).1⟩)/\(∃j,j<=L.length/\I (Me step enc a [] L).1 j)/\(Me step enc a [] L).2.length<=45:=by
 have p:=Dh (body:=oa (da code lib) ia Zx) (live:=[0,5,26,27,28]) (nb:=nb) (fun q:(α×ba)×Nat=>(⟨[(0,.Oa b),(5,.flat (.string (S q.1.2))),(26,.ga L.length (Yd L)),(27,.flat (.int .i64 (L.length:Nat))),(28,.flat (.int .i64 (q.2:Nat)))],cl (oc q.1.1),[],BX q.1.1⟩:St)) (fun q=>(∃j,j<=q.2/\I q.1.1 j)/\q.1.2.length<=45/\q.2<=L.length) (fun q=>L.length - q.2)
  (fun q=>(.exit 2,⟨[(0,.Oa b),(5,.flat (.string (S (Me step enc q.1.1 q.1.2 (L.drop q.2)).2)))],cl (oc (Me step enc q.1.1 q.1.2 (L.drop q.2)).1),[],BX (Me step enc q.1.1 q.1.2 (L.drop q.2)).1⟩)) (fun⟨⟨a,c⟩,k⟩ h=>?_) (n:=ia) (a:=((a,[]),0)) ⟨⟨0,Aa _,h⟩,ea,Ab _⟩ aa
 ·refine⟨p,?_⟩
  have o:∀(l:List Nat)(a:α)(c:ba)(k:Nat),k+l.length=L.length->(∃j,j<=k/\I a j)->c.length<=45->(∃j,j<=L.length/\I (Me step enc a c l).1 j)/\(Me step enc a c l).2.length<=45:=by
   intro l
   induction l with
   |nil=>exact fun a c k C ⟨j,d,e⟩ t=>⟨⟨j,aa,e⟩,t⟩
   |cons r l v=>
    intro a c k C ⟨j,d,e⟩ t;have w:=ch r;simp only[sa]at C;simp only[Me];split
    ·exact v _ _ (k+1) aa ⟨j+1,aa,F a j _ e aa (Vf (Zu y aa) ha)⟩ aa
    ·exact v _ _ (k+1) aa ⟨j,aa,e⟩ la
  simp_all
 ·dsimp only at h⊢
  obtain⟨⟨j,hjZ,h⟩,J,C⟩:=h;have d:=i a;by_cases fa:k<L.length
  ·right
   have hcZ:=qe fa;have H:=Qd fa;have w:=V _ (List.getElem_mem fa);obtain⟨r,hr⟩:∃r,L[k]=r:=⟨_,rfl⟩;rw[hr]at H w;have c1:(k:Int)<L.length:=aa
   have c2:(0:Int)<=(k:Nat):=aa
   have K:IntKind.i64.wrap ((k:Int)+1)=((k+1:Nat):Int):=wrap64 aa;have M:IntKind.i64.wrap (45 - (c.length:Int))=45 - (c.length:Int):=wrap64 aa;have v:(Yd L).drop k=.flat (.int .i32 (r:Nat))::(Yd L).drop (k+1):=by simp only[Yd,<-rm,H,Xb]
   have t:1<=((Yd L).drop (k+1)).length+1:=aa
   have G:=Gs (lib:=lib) r w;have P:=ch r;have U:(⟨#[61,63,85,84,70,45,56,63,66,63]⟩:ByteArray)=S Md:=rfl;have A:(⟨#[63,61]⟩:ByteArray)=S [63,61]:=rfl;have B:(⟨#[]⟩:ByteArray)=S []:=rfl;by_cases hgZ:45<c.length+(Ka r).length
   ·have o:45 - (c.length:Int)<((Ka r).length:Int):=aa
    have Q:=Zu y (g:=c) aa;have D:=W a j (Gc enc c) h aa aa;have e:=i (step a (Gc enc c));have R:=uK y c aa;have z:Md++enc c++[63,61]=Gc enc c:=rfl;have T:=(y c aa).1;have E:Md.length+(enc c).length<=za:=by unfold za;simp only[Md,sa,Ca];omega
    have Y:(Ka r).length<=za:=Ie
    have X:(Md++enc c).length+2<=za:=by unfold za;simp only[Md,Da,sa,Ca];omega
    refine⟨⟨[(0,.Oa b),(5,.flat (.string (S (Ka r)))),(26,.ga L.length (Yd L)),(27,.flat (.int .i64 (L.length:Nat))),(28,.flat (.int .i64 ((k+1:Nat):Int)))],cl (oc (step a (Gc enc c))),[],BX (step a (Gc enc c))⟩,((step a (Gc enc c),Ka r),k+1),?_,?_,⟨⟨j+1,aa,F a j _ h aa aa⟩,la,fa⟩,aa,by grind [Me]⟩
    ·simp only[HH,go_sem,simprocAttr,Jb,ob,Ib,Db,Rb,sI,c1,c2,K,M,v,t,sa,G,o,Ua,Pj,U,A,B,R,z,E,X,Y,D,gc,d,e,Bc,Ma]
    ·simp only[go_sem,simprocAttr,Jb,ob,Ce e,e,pb _ (u _)]
   ·have o:¬45 - (c.length:Int)<((Ka r).length:Int):=aa
    have E:c.length+(Ka r).length<=za:=Ie
    refine⟨⟨[(0,.Oa b),(5,.flat (.string (S (c++Ka r)))),(26,.ga L.length (Yd L)),(27,.flat (.int .i64 (L.length:Nat))),(28,.flat (.int .i64 ((k+1:Nat):Int)))],cl (oc a),[],BX a⟩,((a,c++Ka r),k+1),?_,?_,⟨⟨j,aa,h⟩,la,fa⟩,aa,by grind [Me]⟩
    ·simp only[HH,go_sem,simprocAttr,Jb,ob,Ib,Db,Rb,sI,c1,c2,K,M,v,t,sa,G,o,E,Ua,Pj,gc,d]
    ·simp only[go_sem,simprocAttr,Jb,ob,Ce d,d,pb _ (u _)]
  ·left
   obtain rfl:k=L.length:=aa
   have c1:¬(L.length:Int)<L.length:=aa
   refine⟨.exit 2,⟨[(0,.Oa b),(5,.flat (.string (S c)))],cl (oc a),[],BX a⟩,?_,ea,by grind [Me]⟩;simp only[HH,go_sem,simprocAttr,Jb,ob,Ib,Db,Rb,c1,Ce d,d,Bc]
theorem zih{enc}(w:dj lib enc)(N:Ge lib)(O:kc lib)(s:ba)(hs:s.length<=10000)(u:∀a,(BX a)[p]?=some (9,[.flat (.string (S s))]))(d:∀a,(BX a).length=nb)(e:∀a,∀q∈oc a,q.1<nb)
 (L:∀a k x,I a k->k<10002->x.length<=10000->I (step a x) (k+1))
 (H:∀a k x,I a k->k<10002->x.length<=10000->da code lib hb [.Oa b,.flat (.string (S x))] (BX a) (cl (oc a))=some ([.flat (.bool true)],false,BX (step a x),cl (oc (step a x)))) (a) (M:I a 0):
 da code lib 229 [.Oa b,.ptr p 0] (BX a) (cl (oc a))=some ([],false,BX ((Ed enc s).foldl step a),cl (oc ((Ed enc s).foldl step a))):=by
 refine ja NZ (qa rfl) ?_;have n:(⟨#[]⟩:ByteArray)=S []:=rfl;have C:=u a;have t:=d a;by_cases A:s=[]
 ·have h:=eq_true A
  simp only[go_sem,simprocAttr,Jb,ob,Ib,Db,Rb,C,n,Mo,h,Ed,List.foldl_nil,Ce t,t,pb _ (e a)]
 have h:=eq_false A;have i:=zcB (lib:=lib) O s aa;cases v:Ni s with
 |true=>
  rw[v]at i;have hcut:=pP N s 32 aa;have E:=av 32 s;have hr:=zif (lib:=lib) BX oc step I b nb d e 10002 L H (db 32 s) aa aa (fun x G=>by have:=Ey 32 s x G;omega) a M (by grind [ia]);have z:=d ((db 32 s).foldl step a);have c:((32:UInt8).toNat:Int)=32:=rfl;rw[c]at hcut;simp only[go_sem,simprocAttr,Jb,ob,Ib,Db,Rb,C,n,Mo,h,i,v,hcut,hr,Ed,Pc,Ce t,t,Ce z,z,pb _ (e _)]
 |false=>
  rw[v]at i;have F:=kV (lib:=lib) s aa;have U:=zH s;obtain⟨hr,⟨j,Y,r⟩,l⟩:=zig (lib:=lib) BX oc step I b nb w d e 10002 L H (Kd s) aa aa (fun x G=>by have:=zaE s x G;omega) a M (by grind [ia]);have o:=fz step enc (Kd s) a [];obtain⟨⟨y,c⟩,T⟩:∃q,Me step enc a [] (Kd s)=q:=⟨_,rfl⟩;rw[T]at hr o r l;dsimp only at hr o r l;have R:(⟨#[61,63,85,84,70,45,56,63,66,63]⟩:ByteArray)=S Md:=rfl;have D:(⟨#[63,61]⟩:ByteArray)=S [63,61]:=rfl;have E:=Zu w (g:=c) aa;have J:=H y j (Gc enc c) r aa aa;have z:=d y;have K:=d (step y (Gc enc c));have P:=uK w c aa;have B:Md++enc c++[63,61]=Gc enc c:=rfl;have Q:=(w c aa).1;have W:Md.length+(enc c).length<=za:=by unfold za;simp only[Md,sa,Ca];omega
  have X:(Md++enc c).length+2<=za:=by unfold za;simp only[Md,Da,sa,Ca];omega
  have V:(Ed enc s).foldl step a=step y (Gc enc c):=by simp only[Ed,A,v,Ha,if_false];exact o
  rw[V];simp only[go_sem,simprocAttr,Jb,ob,Ib,Db,Rb,C,n,Mo,h,i,v,F,hr,NU,R,D,Pj,Ua,P,B,W,X,J,sa,Ce t,t,z,Ce K,K,Bc,pb _ (e _)]
end
variable {lib:Callee}
def WW(s)(bx)(oc)(h:∀q∈oc,q.1<bx.length):da code lib 163 [.flat (.string (S s))] bx (cl oc)=some ([.cb 229 [.ptr bx.length 0]],false,bx++[(9,[.flat (.string (S s))])],cl oc):=by
 refine ja MZ (qa rfl) ?_;have a:¬(bx.length+1=bx.length):=aa
 have b:sc (bx.length+1) (cl oc)=cl oc:=pb _ fun q c=>by grind
 exact Kb @Da.{0} @Nat.lt_irrefl
def Rg(q:ba×Nat)(x:ba):ba×Nat:=(qk q.1 x q.2,ll x q.2)
def bf(enc:ba->ba)(f v:ba):ba:=((Ed enc v).foldl Rg (f++[58],f.length+1)).1++[13,10]
def ky(v:ba)(q:ba×Nat):Na:=[(236,bld true 0 q.1 [.flat (.int .i64 (q.2:Nat))]),(9,[.flat (.string (S v))]),(0,[.lp 98 0 .ready [6] [.ptr 0 0]])]
def kr(q:ba×Nat)(k:Nat):Prop:=q.1.length<=11000+k* 10010/\q.2<=10010
theorem cJ(q)(k)(x)(h:kr q k)(a:k<10002)(b:x.length<=10000):kr (Rg q x) (k+1):=by
 grind [kr,Rg,qk,ll,ek]
theorem bz:∀(L:List ba)(k)(q),kr q k->(k+L.length<=10002/\∀x∈L,x.length<=10000)->(L.foldl Rg q).1.length<=200000000
 |[],k,q,h,a=>by obtain⟨b,c⟩:=h;grind
 |x::L,k,q,h,a=>by
  rw[Pf];have b:=a.1;simp only[sa]at b;exact bz L (k+1) _ (cJ q k x h aa (a.2 x iu)) ⟨aa,fun y c=>a.2 y (rn _ c)⟩
theorem FE{enc}(c:dj lib enc):∀(l)(a),a.length<=45->∀x∈Kg enc a l,x.length<=200
 |[],a,h,x,b=>by grind [Kg,Zu]
 |r::l,a,h,x,b=>by
  have d:=ch r;simp only[Kg]at b;split at b
  ·rcases wb.1 b with rfl|b
   ·grind [Zu]
   ·exact FE c l _ aa x b
  ·exact FE c l _ la x b
def IJ{enc}(b:dj lib enc)(v)(c:v.length<=10000):0+(Ed enc v).length<=10002/\∀x∈Ed enc v,x.length<=10000:=by
 unfold Ed;split
 ·simp
 ·split
  ·have:=av 32 v
   exact⟨aa,fun x a=>by have:=Ey 32 v x a;omega⟩
  ·have:=EE enc (Kd v) []
   have:=zH v;exact⟨aa,fun x a=>by have:=FE b _ [] ea x a;omega⟩
def zio(c:Qb lib)(v)(q)(k)(x)(h:kr q k)(j:k<10002)(n:x.length<=10000):da code lib hb [.Oa 2,.flat (.string (S x))] (ky v q) [.cell 0 1]=some ([.flat (.bool true)],false,ky v (Rg q x),[.cell 0 1]):=by
 refine vp ip yO rfl rfl rfl ?_;obtain⟨g,i⟩:=h;have a:=zcP (lib:=lib) c (bx:=[(236,bld true 0 q.1 [.flat (.int .i64 (q.2:Nat))]),(9,[.flat (.string (S v))]),(0,[.lp 98 0 .busy [6] [.ptr 0 0]])]) (r:=[]) (b:=0) (e:=236) (u:=true) (l:=q.1) (w:=x) (long:=q.2) rfl dH aa aa ea ea ea;have d:(Loc.cell 0 1::cl [])=[.cell 0 1]:=rfl;simp only[d,List.set_cons_zero]at a;simp only[iR,SQ,ky,Rg,go_sem,simprocAttr,a]
theorem zin{enc}(D:dj lib enc)(F:Ge lib)(G:kc lib)(g:Qb lib)(f v:ba)(E:v.length<=10000)(P:f.length<=10000):da code lib 98 [.flat (.string (S f)),.flat (.string (S v))] [] []=
 some ([.flat (.string (S (if Hf f then bf enc f v else[]))),.flat (.int .i64 (if Hf f then 0 else 1))],false,[],[]):=by
 refine ja yO (qa rfl) ?_;have z:=eT (lib:=lib) f aa;have p:(⟨#[]⟩:ByteArray)=S []:=rfl;have t:(⟨#[58]⟩:ByteArray)=S [58]:=rfl;have w:(⟨#[13,10]⟩:ByteArray)=S [13,10]:=rfl;cases e:Hf f with
 |false=>
  rw[e]at z;exact ta
 |true=>
  rw[e]at z;have O:IntKind.i64.wrap ((f.length:Int)+1)=((f.length+1:Nat):Int):=wrap64 aa;have B:=cj (lib:=lib) (bx:=[(236,bld false 0 [] [.flat (.int .i64 ((f.length+1:Nat):Int))])]) (r:=[]) (m:=f++[58]) (b:=0) (u:=false) (l:=[]) g rfl dH (by simp only[Da,sa,Ca];unfold za;omega) ea ea;have L:(Loc.cell 0 1::cl [])=[.cell 0 1]:=rfl;have d:=zih (lib:=lib) (ky v) (fun _=>[(0,1)]) Rg kr 2 1 3 D F G v E (fun _=>rfl) (fun _=>rfl) (fun a q A=>by grind) (fun a k x h i j=>cJ a k x h i j) (fun a k x h i j=>zio g v a k x h i j) (f++[58],f.length+1) ⟨la,aa⟩;obtain⟨⟨l,long⟩,A⟩:∃q,(Ed enc v).foldl Rg (f++[58],f.length+1)=q:=⟨_,rfl⟩;have c:=bz (Ed enc v) 0 (f++[58],f.length+1) ⟨la,aa⟩ (IJ D v E);rw[A]at d c;have M:l.length<=200000000:=c;have N:f.length+1<=za:=Ie
  have H:da code lib 45 [.ptr 0 0,.flat (.string (S (f++[58])))] [(236,[.flat (.pointer none),.ga 0 [],.flat (.int .i64 ((f.length+1:Nat):Int))])] [.cell 0 1]=some ([.flat (.int .i64 ((f++[58]).length:Nat)),.flat .nilIface],false,[(236,[.ptr 0 0,.ga (f++[58]).length (Td (f++[58])),.flat (.int .i64 ((f.length+1:Nat):Int))])],[.cell 0 1]):=B;have e1:=WW (lib:=lib) v [(236,[.ptr 0 0,.ga (f++[58]).length (Td (f++[58])),.flat (.int .i64 ((f.length+1:Nat):Int))])] [(0,1)] ea;have e2:=WW (lib:=lib) v [] [] ea;have n:cl [(0,1)]=[.cell 0 1]:=rfl;have o:cl []=[]:=rfl;simp only[n,o,go_sem,simprocAttr]at e1 e2;have I:da code lib 229 [.Oa 2,.ptr 1 0] [(236,[.ptr 0 0,.ga (f++[58]).length (Td (f++[58])),.flat (.int .i64 ((f.length+1:Nat):Int))]),(9,[.flat (.string (S v))]),(0,[.lp 98 0 .ready [6] [.ptr 0 0]])] [.cell 0 1]=some ([],false,[(236,[.ptr 0 0,.ga l.length (Td l),.flat (.int .i64 (long:Nat))]),(9,[.flat (.string (S v))]),(0,[.lp 98 0 .ready [6] [.ptr 0 0]])],[.cell 0 1]):=d;have C:=cj (lib:=lib) (bx:=[(236,bld true 0 l [.flat (.int .i64 (long:Nat))]),(9,[.flat (.string (S v))])]) (r:=[]) (m:=[13,10]) (b:=0) (u:=true) (l:=l) g rfl dH (by simp only[sa,Ca];unfold za;omega) ea ea;have J:da code lib 45 [.ptr 0 0,.flat (.string (S [13,10]))] [(236,[.ptr 0 0,.ga l.length (Td l),.flat (.int .i64 (long:Nat))]),(9,[.flat (.string (S v))])] [.cell 0 1]=some ([.flat (.int .i64 (([13,10]:ba).length:Nat)),.flat .nilIface],false,[(236,[.ptr 0 0,.ga (l++[13,10]).length (Td (l++[13,10])),.flat (.int .i64 (long:Nat))]),(9,[.flat (.string (S v))])],[.cell 0 1]):=C;have K:da code lib 46 [.ptr 0 0] [(236,[.ptr 0 0,.ga (l++[13,10]).length (Td (l++[13,10])),.flat (.int .i64 (long:Nat))]),(9,[.flat (.string (S v))])] [.cell 0 1]=some ([.flat (.string (S (l++[13,10])))],false,[(236,[.ptr 0 0,.ga (l++[13,10]).length (Td (l++[13,10])),.flat (.int .i64 (long:Nat))]),(9,[.flat (.string (S v))])],fe (.cell 0 1) [.cell 0 1]):=tl (u:=true) (rest:=[.flat (.int .i64 (long:Nat))]) g rfl ea;have y:bf enc f v=l++[13,10]:=by simp only[bf,A]
  simp only[go_sem,simprocAttr,z,p,t,w,e,O,N,Ua,Pj,H,e1,e2,I,J,K,YC,y]
def wd(n:Nat):Nat:=if 48<=n/\n<=57 then n - 48 else if 65<=n/\n<=70 then n - 55 else if 97<=n/\n<=102 then n - 87 else 99
def zd(base:Nat):Nat->Nat->ba->Nat×Nat
 |0,n,_=>(n,0)
 |_+1,n,[]=>(n,0)
 |m+1,n,c::t=>if wd c.toNat<base then((zd base m (n* base+wd c.toNat) t).1,(zd base m (n* base+wd c.toNat) t).2+1)else(n,0)
def Yl(base most:Nat)(s:ba):Option (ba×Nat):=
 if(zd base most 0 s).1≠0/\Sb (zd base most 0 s).1=true/\s[(zd base most 0 s).2]?=some 59 then some (Ka (zd base most 0 s).1,(zd base most 0 s).2+1)else none
def fo(s:ba):Option (ba×Nat):=
 if([38,97,109,112,59]:ba).isPrefixOf s then some ([38],5)
 else if([38,108,116,59]:ba).isPrefixOf s then some ([60],4)
 else if([38,103,116,59]:ba).isPrefixOf s then some ([62],4)
 else if([38,113,117,111,116,59]:ba).isPrefixOf s then some ([34],6)
 else if([38,35,120]:ba).isPrefixOf s then(Yl 16 6 (s.drop 3)).map fun q=>(q.1,3+q.2)
 else if([38,35]:ba).isPrefixOf s then(Yl 10 7 (s.drop 2)).map fun q=>(q.1,2+q.2)
 else none
theorem xH(base):∀(m n)(s),(zd base m n s).2<=m/\(zd base m n s).2<=s.length
 |0,n,s=>by simp[zd]
 |m+1,n,[]=>by simp[zd]
 |m+1,n,c::t=>by
  have:=xH base m (n* base+wd c.toNat) t
  grind [zd]
def ET{base most}{s}{q}(h:Yl base most s=some q):1<=q.2/\q.2<=s.length/\q.1.length<=4:=by
 grind [Yl,ch]
def bI{s}{q}(h:fo s=some q):1<=q.2/\q.2<=s.length/\q.1.length<=4:=by
 unfold fo at h;split at h
 ·grind
 split at h
 ·grind
 split at h
 ·grind
 split at h
 ·grind
 split at h
 ·rename_i b;have c:=ln b
  obtain⟨d,a,rfl⟩:=qm h;have:=ET a
  grind
 split at h
 ·rename_i b;have c:=ln b
  obtain⟨d,a,rfl⟩:=qm h;have:=ET a
  grind
 grind
def Fj(s:ba)(e a:UInt8)(q:ba×Nat):(ba×Nat) ⊕ Option (ba×Nat):=match s[q.2]? with
 |none=>.inr (some q)
 |some c=>if c=e then .inr (some q)else if c=a then .inr none else if c=38 then(match fo (s.drop q.2)with
  |none=>.inr none
  |some (b,k)=>.inl (q.1++b,q.2+k))else .inl (q.1++[c],q.2+1)
def Si(s:ba)(e a:UInt8)(at_:Nat):Option (ba×Nat):=Ob (Fj s e a) none (s.length+1) ([],at_)
theorem OI{s}{e g}(d):∀a b,(a.2<=s.length/\d<=a.2/\a.1.length<=4* (a.2 - d))->Fj s e g a=.inl b->(b.2<=s.length/\d<=b.2/\b.1.length<=4* (b.2 - d))/\s.length - b.2<s.length - a.2
 |(out,k),b,⟨i,j,l⟩,h=>by
  unfold Fj at h;dsimp only at h i j l;split at h
  ·cases h
  ·rename_i c o
   have fa:=(qg o).1;split at h
   ·cases h
   split at h
   ·cases h
   split at h
   ·split at h
    ·cases h
    ·rename_i x n p
     have:=bI p
     grind
   grind
def Lt{s}{e c}{at_}(h:at_<=s.length){q}(i:Si s e c at_=some q):at_<=q.2/\q.2<=s.length/\q.1.length<=4* s.length/\(s[q.2]?=none\/s[q.2]?=some e):=by
 have:=rk (step:=Fj s e c) (d:=none) (I:=fun a=>a.2<=s.length/\at_<=a.2/\a.1.length<=4* (a.2 - at_)) (μ:=fun a=>s.length - a.2) (Q:=fun r=>∀q,r=some q->at_<=q.2/\q.2<=s.length/\q.1.length<=4* s.length/\(s[q.2]?=none\/s[q.2]?=some e)) (fun a g=>by
  cases hs:Fj s e c a with
  |inl b=>exact OI at_ a b g hs
  |inr r=>
   grind [Fj]) (s.length+1) ([],at_) ⟨h,Aa _,ea⟩ aa
 exact this q i
def Vk(c:UInt8):Bool:=(decide (97<=c.toNat)&&decide (c.toNat<=122))||(decide (48<=c.toNat)&&decide (c.toNat<=57))
def Uo(c:UInt8):Bool:=decide (c.toNat=32)||(decide (c.toNat=9)||decide (c.toNat=10))
def zb(s:ba)(at_:Nat):ba:=(s.drop at_).takeWhile Vk
def Ah(s:ba)(at_:Nat):ba:=(s.drop at_).takeWhile Uo
structure Qh where
 name:ba
 val:ba
 fr:Nat
 to:Nat
structure Tok where
 kind:UInt8
 name:ba
 text:ba
 Kk:List Qh
 fr:Nat
 to:Nat
def sg:List ba:=[[97],[98],[98,114],[99,111,100,101],[100,105,118],[101,109],[104,49],[104,50],[104,51],[104,114],[105],[105,109,103],[108,105],[111,108],[112],[112,114,101],[115,112,97,110],[115,116,114,111,110,103],[116,97,98,108,101],[116,98,111,100,121],[116,100],[116,104],[116,104,101,97,100],[116,114],[117],[117,108]]
def Hl:List ba:=[[97,108,116],[99,108,97,115,115],[99,111,108,115,112,97,110],[104,114,101,102],[105,100],[114,111,119,115,112,97,110],[115,114,99],[116,105,116,108,101],[119,105,100,116,104]]
def Yi(s:ba):Bool:=decide (s=[98,114])||(decide (s=[104,114])||decide (s=[105,109,103]))
def Cm(s:ba)(at_:Nat):Option (Qh×Nat):=
 if Hl.contains (zb s at_)&&Ub s [61,34] (at_+(zb s at_).length)then(match Si s 34 60 (at_+(zb s at_).length+2)with
  |none=>none
  |some (v,e)=>if e<s.length then some (⟨zb s at_,v,at_+(zb s at_).length+2,e⟩,e+1)else none)
 else none
def Kf(s:ba)(q:List Qh×Nat):(List Qh×Nat) ⊕ Option (List Qh×Nat):=
 if Ub s [62] (q.2+(Ah s q.2).length)then .inr (some (q.1,q.2+(Ah s q.2).length+1))
 else match Cm s (q.2+(Ah s q.2).length)with
  |none=>.inr none
  |some (a,e)=>if(Ah s q.2).length=0\/(q.1.any fun b=>decide (b.name=a.name))=true then .inr none else .inl (q.1++[a],e)
def lk(s:ba)(at_:Nat):Option (List Qh×Nat):=Ob (Kf s) none (s.length+1) ([],at_)
def rj(s:ba)(at_:Nat):Option Tok:=
 if Ub s [60,47] at_ then
  (if sg.contains (zb s (at_+2))&&(!Yi (zb s (at_+2))&&Ub s [62] (at_+2+(zb s (at_+2)).length))then some ⟨99,zb s (at_+2),[],[],at_,at_+2+(zb s (at_+2)).length+1⟩else none)
 else if Ub s [60] at_ then
  (if sg.contains (zb s (at_+1))then(lk s (at_+1+(zb s (at_+1)).length)).map fun q=>⟨111,zb s (at_+1),[],q.1,at_,q.2⟩else none)
 else(Si s 60 62 at_).map fun q=>⟨116,[],q.1,[],at_,q.2⟩
def ti(s:ba)(q:List Tok×Nat):(List Tok×Nat) ⊕ Option (List Tok):=
 if s.length<=q.2 then .inr (some q.1)else match rj s q.2 with
  |none=>.inr none
  |some t=>.inl (q.1++[t],t.to)
def Wi(s:ba):Option (List Tok):=if Vh s then Ob (ti s) none (s.length+1) ([],0)else none
variable {lib:Callee}
def rd(s:ba)(k:Nat):List PV:=[.flat (.string (S s)),.flat (.int .i64 (k:Nat))]
def Ny{bx}{r}{b e}{s}{k}(a:bx[b]?=some (e,rd s k))(fa:∀q∈r,q.1<bx.length):
 da code lib 111 [.ptr b 0] bx (cl r)=some ([.flat (.bool (decide (s.length<=k)))],false,bx,cl r):=by
 refine ja p1 (qa rfl) ?_;unfold rd at a;exact Kb @lq (pb r fa)
theorem hJ(i:kc lib){bx}{r}{b e}{s w}{k}(d:bx[b]?=some (e,rd s k))(hs:s.length<=1000000000)(j:w.length<=1000000000)(n:k<=s.length)(hr:∀q∈r,q≠(b,1))(fa:∀q∈r,q.1<bx.length):
 da code lib 178 [.ptr b 0,.flat (.string (S w))] bx (cl r)=some ([.flat (.bool (w.isPrefixOf (s.drop k)))],false,bx.set b (e,rd s (if w.isPrefixOf (s.drop k)then k+w.length else k)),cl r):=by
 refine ja q1 (qa rfl) ?_;have a:=Zp d;unfold rd at d;have g:=(qg d).1;have l:(0:Int)<=(k:Nat):=aa
 have c1:(k:Int)<=s.length:=aa
 have o:(s.take s.length).drop k=s.drop k:=by rw[pm]
 have h:=BA i (s.drop k) w la j;have p:=xx (k:=k) (m:=w.length) aa;cases c:w.isPrefixOf (s.drop k)with
 |false=>
  rw[c]at h;simp only[a,Ha,if_false];exact ua (pb r fa)
 |true=>
  rw[c]at h;simp only[if_true];exact ye (rg r hr) @rd.eq_1 (pb r fa)
def g_(c):da code lib 180 [.flat (.int .u8 c.toNat)] [] []=some ([.flat (.bool (Vk c))],false,[],[]):=by
 refine ja u1 (qa rfl) ?_;unfold Vk;obtain⟨n,b⟩:∃n,c.toNat=n:=⟨_,rfl⟩;rw[b];have d:((97:Int)<=((n:Nat):Int))=(97<=n):=by apply propext;omega
 have e:(((n:Nat):Int)<=(122:Int))=(n<=122):=by apply propext;omega
 have g:((48:Int)<=((n:Nat):Int))=(48<=n):=by apply propext;omega
 have h:(((n:Nat):Int)<=(57:Int))=(n<=57):=by apply propext;omega
 rcases mb (97<=n)with a|a
 all_goals first|(exfalso;omega)|skip
 all_goals rcases mb (n<=122)with a2|a2
 all_goals first|(exfalso;omega)|skip
 all_goals rcases mb (48<=n)with a3|a3
 all_goals first|(exfalso;omega)|skip
 all_goals rcases mb (n<=57)with a4|a4
 all_goals first|(exfalso;omega)|skip
 all_goals
  first|have e1:=eq_false a|have e1:=eq_true a
  first|have e2:=eq_false a2|have e2:=eq_true a2
  first|have e3:=eq_false a3|have e3:=eq_true a3
  first|have e4:=eq_false a4|have e4:=eq_true a4
  clear a a2 a3 a4
 all_goals exact ta
def aY(c):da code lib 242 [.flat (.int .u8 c.toNat)] [] []=some ([.flat (.bool (Uo c))],false,[],[]):=by
 refine ja l1 (qa rfl) ?_;unfold Uo;obtain⟨n,b⟩:∃n,c.toNat=n:=⟨_,rfl⟩;rw[b];have d:(((n:Nat):Int)=(32:Int))=(n=32):=by apply propext;omega
 have e:(((n:Nat):Int)=(9:Int))=(n=9):=by apply propext;omega
 have g:(((n:Nat):Int)=(10:Int))=(n=10):=by apply propext;omega
 rcases mb (n=32)with a|a
 all_goals first|(exfalso;omega)|skip
 all_goals rcases mb (n=9)with a2|a2
 all_goals first|(exfalso;omega)|skip
 all_goals rcases mb (n=10)with a3|a3
 all_goals first|(exfalso;omega)|skip
 all_goals
  first|have e1:=eq_false a|have e1:=eq_true a
  first|have e2:=eq_false a2|have e2:=eq_true a2
  first|have e3:=eq_false a3|have e3:=eq_true a3
  clear a a2 a3
 all_goals exact ta
def Xg(s:ba)(p:UInt8->Bool)(k:Nat):Nat ⊕ Nat:=match s[k]? with
 |some c=>if p c then .inl (k+1)else .inr k
 |none=>.inr k
theorem bB(s)(p):∀(n k),s.length - k<n->k<=s.length->Ob (Xg s p) 0 n k=k+((s.drop k).takeWhile p).length
 |0,k,h,_=>by omega
 |n+1,k,h,c=>by
  by_cases fa:k<s.length
  ·have a:=Qd fa
   have b:=qe fa;rw[a,List.takeWhile_cons];cases d:p s[k]with
   |true=>
    rw[hf (show Xg s p k=.inl (k+1) by grind [Xg]),bB s p n (k+1) aa fa]
    grind
   |false=>
    rw[hd (show Xg s p k=.inr k by grind [Xg])];simp
  ·have b:s[k]?=none:=Qf aa
   rw[hd (show Xg s p k=.inr k by grind [Xg]),Jj aa];simp
theorem SW{bx}{r}{b e f:Nat}{s}{k}{p}(x:bx[b]?=some (e,rd s k))(hs:s.length<=1000000000)(y:k<=s.length)(hr:∀q∈r,q≠(b,1))(fa:∀q∈r,q.1<bx.length)
 (C:(f=4611686018427387904)=False) (B:∀c,da code lib f [.flat (.int .u8 c.toNat)] [] []=some ([.flat (.bool (p c))],false,[],[])):
 da code lib 179 [.ptr b 0,.cb f []] bx (cl r)=some ([.flat (.string (S ((s.drop k).takeWhile p)))],false,bx.set b (e,rd s (k+((s.drop k).takeWhile p).length)),cl r):=by
 refine ja t1 (qa rfl) ?_;have g:=(qg x).1
 have a:=jt (body:=oa (da code lib) ia TC) (live:=[0,1,5]) (nb:=bx.length) (fun j:Nat=>(⟨[(0,.ptr b 0),(1,.cb f []),(5,.flat (.int .i64 (k:Nat)))],cl r,[],bx.set b (e,rd s j)⟩:St))
  (Xg s p) 0 (fun j=>(.exit 0,⟨[(0,.ptr b 0),(5,.flat (.int .i64 (k:Nat)))],cl r,[],bx.set b (e,rd s j)⟩)) (fun j=>j<=s.length) (fun j=>s.length - j) (fun j o=>?_) (fun j o=>?_) (fun j i o h=>?_) (fun j=>by simp) (n:=s.length+1) k y aa (by grind [ia])
 ·rw[bB s p _ k aa y,Zp x]at a
  have t:k+((s.drop k).takeWhile p).length<=s.length:=by
   have:=(ox p (l:=s.drop k)).length_le;rw[fc]at this;omega
  obtain⟨n,o⟩:∃n,k+((s.drop k).takeWhile p).length=n:=⟨_,rfl⟩;have u:(s.take n).drop k=(s.drop k).takeWhile p:=by
   rw[<-o,ds,yi];exact(List.prefix_iff_eq_take.1 (ox p)).symm
  rw[o]at a t⊢;have d:(bx.set b (e,rd s n))[b]?=some (e,rd s n):=Vg g;unfold rd at x d;have v:(0:Int)<=(k:Nat):=aa
  have c1:(k:Int)<=(n:Nat):=aa
  have c2:(n:Int)<=s.length:=aa
  have c3:(0:Int)<=(n:Nat):=aa
  simp only[rd]at a⊢;exact ua (pb r fa)
 ·have d:(bx.set b (e,rd s j))[b]?=some (e,rd s j):=Vg g
  have A:=Ny (lib:=lib) (r:=r) d la;have v:∀q,(bx.set b (e,rd s j)).set b q=bx.set b q:=fun q=>zo ..
  unfold rd at d A v⊢;by_cases u:j<s.length
  ·have t:=qe u
   obtain⟨c,z⟩:∃c,s[j]=c:=⟨_,rfl⟩;rw[z]at t;have o:=B c;have c1:¬s.length<=j:=aa
   have c2:(0:Int)<=(j:Nat):=aa
   have D:=bj (k:=j) aa;cases w:p c with
   |true=>
    rw[w]at o;simp only[Xg,t,w,if_true,pe];exact ye ZH (rg r hr) (pb r fa)
   |false=>
    rw[w]at o;simp only[Xg,t,w,Ha,if_false,pe];exact ye ZH (rg r hr) (pb r fa)
  ·have t:s[j]?=none:=Qf aa
   have c1:s.length<=j:=aa
   simp only[Xg,t,pe];exact Kb ZH (pb r fa)
 ·exact ua (pb r fa)
 grind [Xg]
def jW(a:kc lib){bx}{r}{b e}{s}{k}(w)(c:bx[b]?=some (e,rd s k))(hs:s.length<=1000000000)(g:w.length<=1000000000)(d:k<=s.length)(hr:∀q∈r,q≠(b,1))(fa:∀q∈r,q.1<bx.length)(h:w.isPrefixOf (s.drop k)=false):
 da code lib 178 [.ptr b 0,.flat (.string (S w))] bx (cl r)=some ([.flat (.bool false)],false,bx,cl r):=by
 have:=hJ a (w:=w) c hs g d hr fa
 grind [Zp]
def lW(a:kc lib){bx}{r}{b e}{s}{k}(w)(c:bx[b]?=some (e,rd s k))(hs:s.length<=1000000000)(g:w.length<=1000000000)(d:k<=s.length)(hr:∀q∈r,q≠(b,1))(fa:∀q∈r,q.1<bx.length)(h:w.isPrefixOf (s.drop k)=true):
 da code lib 178 [.ptr b 0,.flat (.string (S w))] bx (cl r)=some ([.flat (.bool true)],false,bx.set b (e,rd s (k+w.length)),cl r):=by
 grind [hJ]
def w2(c:UInt8):if 48<=c.toNat/\c.toNat<=57 then wd c.toNat=c.toNat - 48 else if 97<=(c.toNat|||32)/\(c.toNat|||32)<=102 then wd c.toNat=(c.toNat|||32) - 87 else wd c.toNat=99:=by
 have:=Qj (p:=fun n=>decide (if 48<=n/\n<=57 then wd n=n - 48 else if 97<=(n|||32)/\(n|||32)<=102 then wd n=(n|||32) - 87 else wd n=99)) Hb c
 grind
def tj(s:ba)(base most:Nat)(q:Nat×Nat×Nat):(Nat×Nat×Nat) ⊕ (Nat×Nat):=if q.2.1<most then(match s[q.2.2]? with
 |some c=>if wd c.toNat<base then .inl (q.1* base+wd c.toNat,q.2.1+1,q.2.2+1)else .inr (q.1,q.2.2)
 |none=>.inr (q.1,q.2.2))else .inr (q.1,q.2.2)
theorem yH(s)(base most):∀(f n a k),most - a<f->Ob (tj s base most) (0,0) f (n,a,k)=((zd base (most - a) n (s.drop k)).1,k+(zd base (most - a) n (s.drop k)).2)
 |0,n,a,k,h=>by omega
 |f+1,n,a,k,h=>by
  by_cases l:a<most
  ·obtain⟨j,g⟩:∃j,most - a=j+1:=⟨most - a - 1,aa⟩
   have b:most - (a+1)=j:=aa
   rw[g];by_cases c:k<s.length
   ·have d:=Qd c
    have e:=qe c;rw[d];by_cases i:wd s[k].toNat<base
    ·rw[hf (show tj s base most (n,a,k)=.inl (n* base+wd s[k].toNat,a+1,k+1) by grind [tj]),yH s base most f _ _ _ aa,b]
     grind [zd]
    ·rw[hd (show tj s base most (n,a,k)=.inr (n,k) by grind [tj])]
     grind [zd]
   ·have e:s[k]?=none:=Qf aa
    rw[hd (show tj s base most (n,a,k)=.inr (n,k) by grind [tj]),Jj aa];rfl
  ·have:most - a=0:=aa
   rw[this,hd (show tj s base most (n,a,k)=.inr (n,k) by grind [tj])];rfl
def i2(n):(Sa (Ka n)).1=if Sb n then n else 65533:=by
 unfold Ka;have h:Sb (if Sb n then n else 65533)=true:=by
  cases a:Sb n with
  |true=>grind
  |false=>rfl
 have:=cv _ h []
 grind
theorem DU(m)(h:m<=7):16^m<=268435456:=Vf (Yr aa h) ha
theorem zaC(HPZ:kc lib){bx}{r}{b e}{s}{k base most}(hbZ:bx[b]?=some (e,rd s k))(hs:s.length<=1000000000)(hkZ:k<=s.length)(hr:∀q∈r,q≠(b,1))(fa:∀q∈r,q.1<bx.length)(V:base=16\/base=10)(hmost:most<=7):
 match Yl base most (s.drop k)with
 |some (x,c)=>da code lib 281 [.ptr b 0,.flat (.int .i64 (base:Nat)),.flat (.int .i64 (most:Nat))] bx (cl r)=some ([.flat (.string (S x)),.flat (.bool true)],false,bx.set b (e,rd s (k+c)),cl r)
 |none=>∃k',k'<=s.length/\da code lib 281 [.ptr b 0,.flat (.int .i64 (base:Nat)),.flat (.int .i64 (most:Nat))] bx (cl r)=some ([.flat (.string (S [])),.flat (.bool false)],false,bx.set b (e,rd s k'),cl r):=by
 have T:=(qg hbZ).1
 have g:=jt (body:=oa (da code lib) ia UC) (live:=[0,1,2,8,9]) (nb:=bx.length) (fun q:Nat×Nat×Nat=>(⟨[(0,.ptr b 0),(1,.flat (.int .i64 (base:Nat))),(2,.flat (.int .i64 (most:Nat))),(8,.flat (.int .i64 (q.1:Nat))),(9,.flat (.int .i64 (q.2.1:Nat)))],cl r,[],bx.set b (e,rd s q.2.2)⟩:St))
  (tj s base most) (0,0) (fun q=>(.exit 0,⟨[(0,.ptr b 0),(8,.flat (.int .i64 (q.1:Nat)))],cl r,[],bx.set b (e,rd s q.2)⟩)) (fun q=>q.2.2<=s.length/\q.2.1<=most/\q.1+1<=16^q.2.1) (fun q=>most - q.2.1) (fun⟨n,u,j⟩ hjZ=>?_) (fun q hjZ=>?_) (fun⟨n,u,j⟩ i hjZ h=>?_) (fun j=>by simp) (n:=most+1) (0,0,k) ⟨hkZ,ea,ea⟩ aa (by grind [ia])
 ·rw[yH s base most _ _ _ _ aa]at g
  have B:=xH base most 0 (s.drop k);have w:=rk (step:=tj s base most) (d:=(0,0)) (I:=fun q=>q.2.2<=s.length/\q.2.1<=most/\q.1+1<=16^q.2.1) (μ:=fun q=>most - q.2.1) (Q:=fun r=>r.1<268435456) (fun⟨n,u,j⟩ U=>by
   grind [tj,DU]) (most+1) (0,0,k) ⟨hkZ,ea,ea⟩ aa
  rw[yH s base most _ _ _ _ aa]at w;simp only[Nat.sub_zero]at g w;rw[fc]at B;unfold Yl;obtain⟨⟨n,p⟩,R⟩:∃q,zd base most 0 (s.drop k)=q:=⟨_,rfl⟩;rw[R]at g B w⊢;dsimp only at g B w⊢;have o:(bx.set b (e,rd s (k+p)))[b]?=some (e,rd s (k+p)):=Vg T;have G:∀q∈r,q.1<(bx.set b (e,rd s (k+p))).length:=by rw[Kc];exact fa
  have l:∀q,(bx.set b (e,rd s (k+p))).set b q=bx.set b q:=fun q=>zo ..
  have J:IntKind.i32.wrap (n:Int)=(n:Int):=wrap32 aa;have y:=Gs (lib:=lib) n aa;have O:=ch n;have v:=cA (lib:=lib) (Ka n) (by grind [Sm]) 0 (Ab _);have K:IntKind.i64.wrap (((Sa (Ka n)).1:Nat):Int)=(((Sa (Ka n)).1:Nat):Int):=wrap64 (by grind [Uq]);have A:=i2 n;have H:((n:Int)=0)=(n=0):=by rw[<-Int.ofNat_zero,Xr]
  have E:(s.drop k)[p]?=(s.drop (k+p))[0]?:=by rw[lg,lg,ci]
  rw[Zp hbZ]at g;simp only[n0]at g;by_cases M:n=0
  ·subst M
   rw[if_neg (fun h=>h.1 rfl)];refine⟨k+p,aa,?_⟩;refine ja Cy (qa rfl) ?_;simp only[n0]at g J y;simp only[zf,n0]at v;simp only[go_sem,simprocAttr,ff,g,J,y,v,ob,Ib,Db,Rb,pb r fa,Kc]
  ·have F:=eq_false M
   simp only[zf,n0]at v;cases L:Sb n with
   |false=>
    rw[L]at A;simp only[Ha,if_false]at A;have C:¬(65533:Int)=(n:Int):=fun h=>by
     have:n=65533:=aa
     rw[this]at L;exact absurd L ha
    rw[if_neg (fun h=>by grind)];refine⟨k+p,aa,?_⟩;refine ja Cy (qa rfl) ?_;rw[A]at v K;have P:IntKind.i64.wrap 65533=65533:=ha
    simp only[go_sem,simprocAttr,ff,g,J,y,v,P,H,F,C,ob,Ib,Db,Rb,pb r fa,Kc]
   |true=>
    rw[L]at A;simp only[if_true]at A;rw[A]at v K;by_cases D:(s.drop k)[p]?=some 59
    ·rw[if_pos ⟨M,rfl,D⟩]
     have C:([59]:ba).isPrefixOf (s.drop (k+p))=true:=by
      rw[E]at D;cases N:s.drop (k+p)with
      |nil=>grind
      |cons a t=>grind
     have ht:=lW (lib:=lib) HPZ [59] o hs ea aa hr G C;rw[l]at ht;refine ja Cy (qa rfl) ?_;simp only[sa,Ca,Zc,Ij]at ht;simp only[go_sem,simprocAttr,ff,g,J,y,v,K,H,F,ht,Jb,ob,Ib,Db,Rb,pb r fa,Kc,Bc]
    ·rw[if_neg (fun h=>D h.2.2)]
     have C:([59]:ba).isPrefixOf (s.drop (k+p))=false:=by
      rw[E]at D;cases N:s.drop (k+p)with
      |nil=>rfl
      |cons a t=>
       grind
     have ht:=jW (lib:=lib) HPZ [59] o hs ea aa hr G C;refine⟨k+p,aa,?_⟩;refine ja Cy (qa rfl) ?_;simp only[go_sem,simprocAttr,ff,g,J,y,v,K,H,F,ht,Jb,ob,Ib,Db,Rb,pb r fa,Kc,Bc]
 ·
  obtain⟨hj1,hj2,hj3⟩:=hjZ;dsimp only at hj1 hj2 hj3;have o:(bx.set b (e,rd s j))[b]?=some (e,rd s j):=Vg T;have G:∀q∈r,q.1<(bx.set b (e,rd s j)).length:=by rw[Kc];exact fa
  have l:∀q,(bx.set b (e,rd s j)).set b q=bx.set b q:=fun q=>zo ..
  have p:=Ny (lib:=lib) (r:=r) o G;have hpw:=DU u aa;unfold tj;dsimp only;unfold rd at o p l⊢;by_cases X:j<s.length
  ·have C:s[j]?=some s[j]:=qe X
   obtain⟨c,hcZ⟩:∃c,s[j]=c:=⟨_,rfl⟩;rw[hcZ]at C;have c1:¬s.length<=j:=aa
   have c2:(0:Int)<=(j:Nat):=aa
   by_cases U:u<most
   ·have c3:(u:Int)<most:=aa
    have A:=w2 c;have hc256:=c.toNat_lt;obtain⟨x,E⟩:∃x,c.toNat=x:=⟨_,rfl⟩;have B:=u8_or x 32 aa aa;have O:(x|||32)<256:=Nat.or_lt_two_pow (n:=8) aa aa;have e32:((32:Nat):Int)=32:=rfl;rw[e32]at B;rw[E]at A;obtain⟨y,hyZ⟩:∃y,(x|||32)=y:=⟨_,rfl⟩;rw[hyZ]at B A O;obtain⟨v,F⟩:∃v,wd x=v:=⟨_,rfl⟩;rw[F]at A;have J:=bj (k:=j) aa;have K:=bj (k:=u) aa;have hexit:∀z:Int,(base:Int)<=z->((base:Int)<=z)=True:=fun z h=>eq_true h
    rcases(show(48<=x/\x<=57/\v=x - 48)\/(¬(48<=x/\x<=57)/\97<=y/\y<=102/\v=y - 87)\/(¬(48<=x/\x<=57)/\¬(97<=y/\y<=102)/\v=99) by
     grind)with⟨M,N,p3Z⟩|⟨M,N,p3Z,p4Z⟩|⟨M,N,p3Z⟩
    ·have M:(48:Int)<=(x:Nat):=aa
     have L:((x:Nat):Int)<=57:=aa
     have P:IntKind.u8.wrap ((x:Int) - 48)=((v:Nat):Int):=by rw[Kj aa];omega
     have W:IntKind.i64.wrap ((v:Nat):Int)=((v:Nat):Int):=wrap64 aa;by_cases w:v<base
     ·have H:¬(base:Int)<=(v:Nat):=aa
      have Y:IntKind.i64.wrap ((n:Int)* (base:Int))=((n* base:Nat):Int):=by rw[wrap64 la];rfl
      have Z:IntKind.i64.wrap (((n* base:Nat):Int)+(v:Int))=((n* base+v:Nat):Int):=xx la;simp only[U,C,E,F,w,if_true,pe];simp only[el,go_sem,simprocAttr,o,p,l,E,Jb,ob,Ib,Db,Rb,rg r hr,Ua,kd,C,hh,c1,c2,c3,M,L,H,J,K,P,W,Y,Z,gc,Kc,pb r fa,Bc]
     ·have H:(base:Int)<=(v:Nat):=aa
      simp only[U,C,E,F,w,if_true,if_false,pe];simp only[el,go_sem,simprocAttr,o,p,l,E,Jb,ob,Ib,Db,Rb,rg r hr,Ua,kd,C,hh,c1,c2,c3,M,L,H,J,K,P,W,gc,Kc,pb r fa,Bc]
    ·have M:(97:Int)<=(y:Nat):=aa
     have R:((y:Nat):Int)<=102:=aa
     have P:IntKind.u8.wrap ((y:Int) - 97)=((y - 97:Nat):Int):=by rw[Kj aa];omega
     have W:IntKind.i64.wrap ((y - 97:Nat):Int)=((y - 97:Nat):Int):=wrap64 aa;have N:IntKind.i64.wrap (((y - 97:Nat):Int)+10)=((v:Nat):Int):=by rw[wrap64 aa];omega
     have hno:(if(48:Int)<=(x:Nat)then decide (((x:Nat):Int)<=57)else false)=false:=by
      split
      ·grind
      ·rfl
     by_cases D:(48:Int)<=(x:Nat)
     ·have L:¬((x:Nat):Int)<=57:=aa
      by_cases w:v<base
      ·have H:¬(base:Int)<=(v:Nat):=aa
       have Y:IntKind.i64.wrap ((n:Int)* (base:Int))=((n* base:Nat):Int):=by rw[wrap64 la];rfl
       have Z:IntKind.i64.wrap (((n* base:Nat):Int)+(v:Int))=((n* base+v:Nat):Int):=xx la;simp only[U,C,E,F,w,if_true,pe];simp only[el,go_sem,simprocAttr,o,p,l,E,B,Jb,ob,Ib,Db,Rb,rg r hr,Ua,kd,C,hh,c1,c2,c3,D,L,H,M,R,J,K,P,W,Y,Z,N,gc,Kc,pb r fa,Bc]
      ·have H:(base:Int)<=(v:Nat):=aa
       simp only[U,C,E,F,w,if_true,if_false,pe];simp only[el,go_sem,simprocAttr,o,p,l,E,B,Jb,ob,Ib,Db,Rb,rg r hr,Ua,kd,C,hh,c1,c2,c3,D,L,H,M,R,J,K,P,W,N,gc,Kc,pb r fa,Bc]
     ·by_cases w:v<base
      ·have H:¬(base:Int)<=(v:Nat):=aa
       have Y:IntKind.i64.wrap ((n:Int)* (base:Int))=((n* base:Nat):Int):=by rw[wrap64 la];rfl
       have Z:IntKind.i64.wrap (((n* base:Nat):Int)+(v:Int))=((n* base+v:Nat):Int):=xx la;simp only[U,C,E,F,w,if_true,pe];simp only[el,go_sem,simprocAttr,o,p,l,E,B,Jb,ob,Ib,Db,Rb,rg r hr,Ua,kd,C,hh,c1,c2,c3,D,H,M,R,J,K,P,W,Y,Z,N,gc,Kc,pb r fa,Bc]
      ·have H:(base:Int)<=(v:Nat):=aa
       simp only[U,C,E,F,w,if_true,if_false,pe];simp only[el,go_sem,simprocAttr,o,p,l,E,B,Jb,ob,Ib,Db,Rb,rg r hr,Ua,kd,C,hh,c1,c2,c3,D,H,M,R,J,K,P,W,N,gc,Kc,pb r fa,Bc]
    ·have w:¬v<base:=by rcases V with rfl|rfl<;>omega
     have H:(base:Int)<=(base:Int):=Int.le_refl _;have N:=eq_true H;simp only[U,C,E,F,w,if_true,if_false,pe];by_cases D:(48:Int)<=(x:Nat)<;>by_cases M:(97:Int)<=(y:Nat)
     ·have L:¬((x:Nat):Int)<=57:=aa
      have R:¬((y:Nat):Int)<=102:=aa
      simp only[el,go_sem,simprocAttr,o,p,l,E,B,Jb,ob,Ib,Db,Rb,rg r hr,Ua,kd,C,hh,c1,c2,c3,D,M,L,R,N,gc,Kc,pb r fa,Bc]
     ·have L:¬((x:Nat):Int)<=57:=aa
      simp only[el,go_sem,simprocAttr,o,p,l,E,B,Jb,ob,Ib,Db,Rb,rg r hr,Ua,kd,C,hh,c1,c2,c3,D,M,L,N,gc,Kc,pb r fa,Bc]
     ·have R:¬((y:Nat):Int)<=102:=aa
      simp only[el,go_sem,simprocAttr,o,p,l,E,B,Jb,ob,Ib,Db,Rb,rg r hr,Ua,kd,C,hh,c1,c2,c3,D,M,R,N,gc,Kc,pb r fa,Bc]
     ·simp only[el,go_sem,simprocAttr,o,p,l,E,B,Jb,ob,Ib,Db,Rb,rg r hr,Ua,kd,C,hh,c1,c2,c3,D,M,N,gc,Kc,pb r fa,Bc]
   ·have c3:¬(u:Int)<most:=aa
    simp only[U,if_false,pe];simp only[el,go_sem,simprocAttr,o,p,Jb,ob,Ib,Db,Rb,c1,c3,Bc]
  ·have C:s[j]?=none:=Qf aa
   have c1:s.length<=j:=aa
   have v:(if u<most then(Sum.inr (n,j):(Nat×Nat×Nat) ⊕ (Nat×Nat))else .inr (n,j))=.inr (n,j):=by split<;>rfl
   simp only[C,v,pe];simp only[el,go_sem,simprocAttr,o,p,Jb,ob,Ib,Db,Rb,c1,Bc]
 ·simp only[go_sem,simprocAttr,Jb,ob,Kc,pb r fa]
 grind [tj,Nat.pow_succ]
theorem zdi(z:kc lib){bx}{r}{b e}{s}{k}(y:bx[b]?=some (e,rd s k))(hs:s.length<=1000000000)(C:k<=s.length)(hr:∀q∈r,q≠(b,1))(fa:∀q∈r,q.1<bx.length):
 match fo (s.drop k)with
 |some (x,c)=>da code lib 246 [.ptr b 0] bx (cl r)=some ([.flat (.string (S x)),.flat (.bool true)],false,bx.set b (e,rd s (k+c)),cl r)
 |none=>∃k',k'<=s.length/\da code lib 246 [.ptr b 0] bx (cl r)=some ([.flat (.string (S [])),.flat (.bool false)],false,bx.set b (e,rd s k'),cl r):=by
 have o:=(qg y).1;have l:∀w:ba,w.length<=10->w.isPrefixOf (s.drop k)=true->da code lib 178 [.ptr b 0,.flat (.string (S w))] bx (cl r)=some ([.flat (.bool true)],false,bx.set b (e,rd s (k+w.length)),cl r):=fun w E h=>lW z w y hs aa C hr fa h
 have j:∀w:ba,w.length<=10->w.isPrefixOf (s.drop k)=false->da code lib 178 [.ptr b 0,.flat (.string (S w))] bx (cl r)=some ([.flat (.bool false)],false,bx,cl r):=fun w E h=>jW z w y hs aa C hr fa h
 have num:∀(w:ba)(base most:Nat),base=16\/base=10->most<=7->w.isPrefixOf (s.drop k)=true->match Yl base most (s.drop (k+w.length))with
  |some (x,c)=>da code lib 281 [.ptr b 0,.flat (.int .i64 (base:Nat)),.flat (.int .i64 (most:Nat))] (bx.set b (e,rd s (k+w.length))) (cl r)=some ([.flat (.string (S x)),.flat (.bool true)],false,bx.set b (e,rd s (k+w.length+c)),cl r)
  |none=>∃k',k'<=s.length/\da code lib 281 [.ptr b 0,.flat (.int .i64 (base:Nat)),.flat (.int .i64 (most:Nat))] (bx.set b (e,rd s (k+w.length))) (cl r)=some ([.flat (.string (S [])),.flat (.bool false)],false,bx.set b (e,rd s k'),cl r):=fun w base most t u v=>by
  have i:=ln v;rw[fc]at i;have:=zaC (lib:=lib) z (bx:=bx.set b (e,rd s (k+w.length))) (r:=r) (b:=b) (e:=e) (s:=s) (k:=k+w.length) (base:=base) (most:=most) (Vg o) hs aa hr la t u;simp only[zo]at this;omega
 have g:=Zp y;unfold fo;cases t:([38,97,109,112,59]:ba).isPrefixOf (s.drop k)with
 |true=>
  have a:=l _ ha t;rw[if_pos rfl];refine ja Jn (qa rfl) ?_;simp only[sa,Ca,Zc]at a;simp only[go_sem,simprocAttr,ff,a,Jb,ob,Ib,Db,Rb,pb r fa,Kc,Bc]
 |false=>
 have a:=j _ ha t;rw[if_neg ea];cases u:([38,108,116,59]:ba).isPrefixOf (s.drop k)with
 |true=>
  have t2:=l _ ha u;rw[if_pos rfl];refine ja Jn (qa rfl) ?_;simp only[sa,Ca,Zc]at t2;simp only[go_sem,simprocAttr,ff,a,t2,Jb,ob,Ib,Db,Rb,pb r fa,Kc,Bc]
 |false=>
 have t2:=j _ ha u;rw[if_neg ea];cases v:([38,103,116,59]:ba).isPrefixOf (s.drop k)with
 |true=>
  have t3:=l _ ha v;rw[if_pos rfl];refine ja Jn (qa rfl) ?_;simp only[sa,Ca,Zc]at t3;simp only[go_sem,simprocAttr,ff,a,t2,t3,Jb,ob,Ib,Db,Rb,pb r fa,Kc,Bc]
 |false=>
 have t3:=j _ ha v;rw[if_neg ea];cases D:([38,113,117,111,116,59]:ba).isPrefixOf (s.drop k)with
 |true=>
  have t4:=l _ ha D;rw[if_pos rfl];refine ja Jn (qa rfl) ?_;simp only[sa,Ca,Zc]at t4;simp only[go_sem,simprocAttr,ff,a,t2,t3,t4,Jb,ob,Ib,Db,Rb,pb r fa,Kc,Bc]
 |false=>
 have t4:=j _ ha D;rw[if_neg ea];cases A:([38,35,120]:ba).isPrefixOf (s.drop k)with
 |true=>
  have t5:=l _ ha A;have i:=num _ 16 6 (.inl rfl) ha A;rw[if_pos rfl];simp only[sa,Ca,Zc,Nat.reduceAdd,uB]at t5 i;rw[Cd];cases n:Yl 16 6 (s.drop (k+3))with
  |some q=>
   obtain⟨x,c⟩:=q;rw[n]at i;simp only[jd];rw[show k+(3+c)=k+3+c by omega];refine ja Jn (qa rfl) ?_;simp only[go_sem,simprocAttr,ff,a,t2,t3,t4,t5,i,Jb,ob,Ib,Db,Rb,pb r fa,Kc,Bc]
  |none=>
   rw[n]at i;obtain⟨k',d,i⟩:=i;simp only[aj];refine⟨k',d,?_⟩;refine ja Jn (qa rfl) ?_;simp only[go_sem,simprocAttr,ff,a,t2,t3,t4,t5,i,Jb,ob,Ib,Db,Rb,pb r fa,Kc,Bc]
 |false=>
 have t5:=j _ ha A;rw[if_neg ea];cases B:([38,35]:ba).isPrefixOf (s.drop k)with
 |true=>
  have p:=l _ ha B;have i:=num _ 10 7 (.inr rfl) ha B;rw[if_pos rfl];simp only[sa,Ca,Zc,Nat.reduceAdd,uB]at p i;rw[Cd];cases n:Yl 10 7 (s.drop (k+2))with
  |some q=>
   obtain⟨x,c⟩:=q;rw[n]at i;simp only[jd];rw[show k+(2+c)=k+2+c by omega];refine ja Jn (qa rfl) ?_;simp only[go_sem,simprocAttr,ff,a,t2,t3,t4,t5,p,i,Jb,ob,Ib,Db,Rb,pb r fa,Kc,Bc]
  |none=>
   rw[n]at i;obtain⟨k',d,i⟩:=i;simp only[aj];refine⟨k',d,?_⟩;refine ja Jn (qa rfl) ?_;simp only[go_sem,simprocAttr,ff,a,t2,t3,t4,t5,p,i,Jb,ob,Ib,Db,Rb,pb r fa,Kc,Bc]
 |false=>
 have p:=j _ ha B;rw[if_neg ea];refine⟨k,C,?_⟩;rw[g];refine ja Jn (qa rfl) ?_;simp only[go_sem,simprocAttr,ff,a,t2,t3,t4,t5,p,ob,Ib,Db,Rb,pb r fa,Bc]
def GA{n}{s}{k}:Ia n (rd s k)=true:=rfl
def hy{b}{l}:bld false b [] l=PV.flat (.pointer none)::PV.ga 0 []::l:=rfl
theorem zdP(W:kc lib)(N:Qb lib){bx}{r}{b e}{s}{k}{en bd}(U:bx[b]?=some (e,rd s k))(E:nf bx.length bx=true)(hs:s.length<=100000000)(Z:k<=s.length)(hr:∀q∈r,q≠(b,1))(fa:∀q∈r,q.1<bx.length):
 match Si s en bd k with
 |some (x,p)=>da code lib 184 [.ptr b 0,.flat (.int .u8 en.toNat),.flat (.int .u8 bd.toNat)] bx (cl r)=some ([.flat (.string (S x)),.flat (.bool true)],false,bx.set b (e,rd s p),cl r)
 |none=>∃k',k'<=s.length/\da code lib 184 [.ptr b 0,.flat (.int .u8 en.toNat),.flat (.int .u8 bd.toNat)] bx (cl r)=some ([.flat (.string (S [])),.flat (.bool false)],false,bx.set b (e,rd s k'),cl r):=by
 have i:=(qg U).1;obtain⟨r',v⟩:∃r',r'=(bx.length,1)::r:=⟨_,rfl⟩;have D:Loc.cell bx.length 1::cl r=cl r':=by rw[v];rfl
 have F:∀q∈r',q.1<bx.length+1:=by rw[v];exact I_ (x:=(0,0)) fa
 have I:∀q∈r',q≠(b,1):=by
  rw[v];intro q A;rcases wb.1 A with rfl|A
  ·grind
  ·grind
 have H:∀q∈r,q≠(bx.length,1):=fun q A h=>by grind
 have Y:fe (Loc.cell bx.length 1) (cl r')=cl r:=by
  rw[v];show fe _ (Loc.cell bx.length 1::cl r)=_;simp only[gv,and_self,if_true,Lq r H,if_false]
 have T:sc bx.length (cl r')=cl r:=by
  rw[v];show sc _ (Loc.cell bx.length 1::cl r)=_;simp only[xl,Nat.lt_irrefl,if_false,pb r fa]
 have t:∀q∈r,q.1<bx.length+1:=fun q A=>Nat.lt_succ_of_lt (fa q A)
 have R:∀(j:Nat)(x:ba)(u:Bool)(out:ba),out.length+x.length<=za->da code lib 45 [.ptr bx.length 0,.flat (.string (S x))] (bx.set b (e,rd s j)++[(101,bld u bx.length out [])]) (cl r')=some ([.flat (.int .i64 x.length),.flat .nilIface],false,bx.set b (e,rd s j)++[(101,bld true bx.length (out++x) [])],cl r'):=fun j x u out h=>by
  have:=cj (lib:=lib) (r:=r) (m:=x) N (Qo (bx:=bx) (b:=b) (x:=(e,rd s j)) (q:=(101,bld u bx.length out []))) Wk h H (by rw[Jk];exact t);rw[Cq,D]at this;exact this
 have Q:∀(j:Nat)(x:UInt8)(u:Bool)(out:ba),out.length+1<=za->da code lib 44 [.ptr bx.length 0,.flat (.int .u8 x.toNat)] (bx.set b (e,rd s j)++[(101,bld u bx.length out [])]) (cl r')=some ([.flat .nilIface],false,bx.set b (e,rd s j)++[(101,bld true bx.length (out++[x]) [])],cl r'):=fun j x u out h=>by
  have:=hx (lib:=lib) (r:=r) (c:=x) N (Qo (bx:=bx) (b:=b) (x:=(e,rd s j)) (q:=(101,bld u bx.length out []))) Wk h H (by rw[Jk];exact t);rw[Cq,D]at this;exact this
 have hrel:=Sl (body:=oa (da code lib) ia VC) (live:=[0,1,2,8]) (nb:=bx.length+1)
  (fun(u:Bool)(q:ba×Nat)=>(⟨[(0,.ptr b 0),(1,.flat (.int .u8 en.toNat)),(2,.flat (.int .u8 bd.toNat)),(8,.ptr bx.length 0)],cl r',[],bx.set b (e,rd s q.2)++[(101,bld u bx.length q.1 [])]⟩:St))
  (Fj s en bd) none (fun a o st=>match a with
    |some q=>o=.exit 0/\∃u,st=⟨[(8,.ptr bx.length 0)],cl r',[],bx.set b (e,rd s q.2)++[(101,bld u bx.length q.1 [])]⟩
    |none=>o=.ret/\∃k' y,k'<=s.length/\st=⟨[(6,.flat (.string (S []))),(7,.flat (.bool false))],cl r',[],bx.set b (e,rd s k')++[y]⟩)
  (fun a=>a.2<=s.length/\k<=a.2/\a.1.length<=4* (a.2 - k)) (fun a=>s.length - a.2) (fun u ⟨out,j⟩ M=>?_) (fun u ⟨out,j⟩ M=>?_) (fun a c M h=>OI k a c M h) (n:=s.length+1) (m:=ia) false ([],k) ⟨Z,Aa _,ea⟩ aa (by grind [ia])
 ·obtain⟨o,st,w,A⟩:=hrel
  have d:Ob (Fj s en bd) none (s.length+1) ([],k)=Si s en bd k:=rfl;rw[d]at A;dsimp only at w;rw[Zp U,hy]at w;cases B:Si s en bd k with
  |some q=>
   obtain⟨x,p⟩:=q;rw[B]at A;obtain⟨rfl,u,rfl⟩:=A;dsimp only at w⊢;have z:=tl (lib:=lib) (oc:=cl r') (u:=u) (l:=x) (rest:=[]) N (Qo (bx:=bx) (b:=b) (x:=(e,rd s p)) (q:=(101,bld u bx.length x []))) (by rw[v];exact iu);have g:=SS (b:=b) (q:=(e,rd s p)) GA E;refine ja TO (qa rfl) ?_;simp(maxSteps:=999999) (disch:=first|assumption|omega) only[go_sem,simprocAttr,au,D,w,z,Y,g,GA,nK,Da]
  |none=>
   rw[B]at A;obtain⟨rfl,k',y,G,rfl⟩:=A;dsimp only at w⊢;have g:=SS (b:=b) (q:=(e,rd s k')) GA E;refine⟨k',G,?_⟩;refine ja TO (qa rfl) ?_;simp(maxSteps:=999999) (disch:=first|assumption|omega) only[go_sem,simprocAttr,au,D,w,T,g,GA,Jk,nK,Da]
 ·
  dsimp only at M;have g:=Ny (lib:=lib) (r:=r') (Po (x:=(e,rd s j)) (q:=(101,bld u bx.length out [])) i) (by rw[Jk];exact F);dsimp only;by_cases t:j<s.length
  ·have B:s[j]?=some s[j]:=qe t
   obtain⟨c,X⟩:∃c,s[j]=c:=⟨_,rfl⟩;rw[X]at B;unfold Fj;simp only[B];by_cases K:c=en
   ·rw[if_pos K]
    have w:=congrArg UInt8.toNat K;refine⟨.exit 0,⟨[(8,.ptr bx.length 0)],cl r',[],bx.set b (e,rd s j)++[(101,bld u bx.length out [])]⟩,?_,ea,rfl,u,rfl⟩;simp only[rd,wn]at g⊢;simp(maxSteps:=999999) (disch:=first|assumption|omega) only[go_sem,simprocAttr,au,wt,g,B,Po,Qo,Bq,Cq,Jk]
   ·rw[if_neg K]
    have w:=eq_false fun h=>K (Yb.1 h)
    by_cases L:c=bd
    ·rw[if_pos L]
     have z:=eq_true (congrArg UInt8.toNat L);refine⟨.ret,⟨[(6,.flat (.string (S []))),(7,.flat (.bool false))],cl r',[],bx.set b (e,rd s j)++[(101,bld u bx.length out [])]⟩,?_,ea,rfl,j,_,aa,rfl⟩;simp only[rd,wn]at g⊢;simp(maxSteps:=999999) (disch:=first|assumption|omega) only[go_sem,simprocAttr,au,wt,g,B,w,z,Po,Jk]
    ·rw[if_neg L]
     have z:=eq_false fun h=>L (Yb.1 h)
     by_cases O:c=38
     ·rw[if_pos O]
      have C:(c.toNat=38)=True:=eq_true dh;have d:=zdi (lib:=lib) W (r:=r') (Po (x:=(e,rd s j)) (q:=(101,bld u bx.length out [])) i) aa (by omega:j<=s.length) I (by rw[Jk];exact F);cases P:fo (s.drop j)with
      |none=>
       rw[P]at d;obtain⟨k',G,d⟩:=d;rw[Bq i]at d;dsimp only;refine⟨.ret,⟨[(6,.flat (.string (S []))),(7,.flat (.bool false))],cl r',[],bx.set b (e,rd s k')++[(101,bld u bx.length out [])]⟩,?_,ea,rfl,k',_,G,rfl⟩;simp only[rd,wn]at g d⊢;simp(maxSteps:=999999) (disch:=first|assumption|omega) only[go_sem,simprocAttr,au,wt,g,d,B,w,z,C,Po,Qo,Bq,Cq,Jk]
      |some q=>
       obtain⟨x,n⟩:=q;rw[P]at d;dsimp only at d⊢;rw[Bq i]at d;have V:=bI P;rw[fc]at V;dsimp only at V;have J:=R (j+n) x u out Ie;refine⟨true,?_⟩;simp only[rd,Ee]at g d J⊢;simp(maxSteps:=999999) (disch:=first|assumption|omega) only[go_sem,simprocAttr,au,wt,g,d,J,B,w,z,C,Po,Qo,Bq,Cq,Jk]
     ·rw[if_neg O]
      have C:(c.toNat=38)=False:=eq_false fun h=>O (Yb.1 h)
      have J:=Q j c u out Ie;refine⟨true,?_⟩;simp only[rd,Ee,wn]at g J⊢;simp(maxSteps:=999999) (disch:=first|assumption|omega) only[go_sem,simprocAttr,au,wt,g,J,B,w,z,C,Po,Qo,Bq,Cq,Jk]
  ·have B:s[j]?=none:=Qf aa
   unfold Fj;simp only[B];refine⟨.exit 0,⟨[(8,.ptr bx.length 0)],cl r',[],bx.set b (e,rd s j)++[(101,bld u bx.length out [])]⟩,?_,ea,rfl,u,rfl⟩;simp only[rd,wn]at g⊢;simp(maxSteps:=999999) (disch:=first|assumption|omega) only[go_sem,simprocAttr,au,wt,g,B,Po,Qo,Bq,Cq,Jk]
 ·simp(maxSteps:=999999) (disch:=first|assumption|omega) only[go_sem,simprocAttr,au,Jk]
theorem BJ{s}{fin}{g:Nat->Out×St}:∀(L:List ba)(k),(L.contains s=false/\Ve (fun(_:Unit) k x=>if x=s then .inr (g k)else .inl ()) fin () k L=fin ())\/(L.contains s=true/\∃j,j<k+L.length/\Ve (fun(_:Unit) k x=>if x=s then .inr (g k)else .inl ()) fin () k L=g j)
 |[],k=>.inl ⟨rfl,rfl⟩
 |x::t,k=>by
  rw[Ve,List.contains_cons];by_cases h:x=s
  ·grind
  ·rw[if_neg h]
   dsimp only;have b:(s==x)=false:=by simpa using fun e=>h e.symm
   rw[b,Wg];rcases BJ (fin:=fin) (g:=g) t (k+1)with a|⟨a,j,c,d⟩
   ·exact .inl a
   grind
def j6(L)(s)(n:L.length<=1000000):∃i,(L.contains s=decide (0<=i))/\da code lib 278 [.ga L.length (va L),.flat (.string (S s))] [] []=some ([.flat (.int .i64 i)],false,[],[]):=by
 have a:=fk (body:=oa (da code lib) ia RC) (live:=[0,1,7,8]) (nb:=0) (fun(_:Unit) k=>⟨[(0,.ga L.length (va L)),(1,.flat (.string (S s))),(7,.flat (.int .i64 (L.length:Nat))),(8,.flat (.int .i64 (k:Nat)))],[],[],[]⟩) L (fun _ _=>True)
  (fun _ k x=>if x=s then .inr (.ret,⟨[(4,.flat (.int .i64 (k:Nat)))],[],[],[]⟩)else .inl ()) (fun _=>(.exit 0,⟨[],[],[],[]⟩)) (fun _ k x _ c l b=>?_) (fun _ _=>by simp only[go_sem,simprocAttr]) (fun _ _ _ _ _ _ _ _=>trivial) (fun _ _ x r h=>by split at h<;>simp at h;rw[<-h];simp) (fun _ _=>?_) (fun _=>by simp) () trivial Im
 ·simp only[n0]at a
  rcases BJ (s:=s) (fin:=fun _=>(.exit 0,⟨[],[],[],[]⟩)) (g:=fun k=>(.ret,⟨[(4,.flat (.int .i64 (k:Nat)))],[],[],[]⟩)) L 0 with⟨c,b⟩|⟨c,j,b,d⟩
  ·rw[b]at a
   refine⟨-1,la,?_⟩;refine ja SO (qa rfl) ?_;have o:Int.negSucc 0=-1:=rfl;exact ua @dd
  ·rw[d]at a
   refine⟨j,la,?_⟩;refine ja SO (qa rfl) ?_;exact ua @dd
 ·have b:(va L)[k]?=some (.flat (.string (S x))):=by simp only[va,jx,l,jd]
  have d:(va L).drop k=.flat (.string (S x))::(va L).drop (k+1):=by
   rw[Qd la];rw[qe la,Pb]at b;rw[b]
  by_cases h:x=s
  ·have c:=eq_true h.symm
   rw[if_pos h];exact Kb XH @dd
  ·have c:(s=x)=False:=eq_false fun e=>h e.symm
   rw[if_neg h];exact Kb XH @dd
 ·exact ua XH
def eP(L)(s)(b:L.length<=1000000):da code lib 241 [.ga L.length (va L),.flat (.string (S s))] [] []=some ([.flat (.bool (L.contains s))],false,[],[]):=by
 obtain⟨i,a,c⟩:=j6 (lib:=lib) L s b;refine ja f1 (qa rfl) ?_;rw[a];exact ua @Pc
def SP(s):da code lib 181 [.flat (.string (S s))] [] []=some ([.flat (.bool (sg.contains s))],false,[],[]):=by
 have h:=eP (lib:=lib) sg s ha;obtain⟨v,a⟩:∃v,sg.contains s=v:=⟨_,rfl⟩;rw[a]at h⊢;simp only[va,sg,Xb,Fe,sa,Ca,Zc,Nat.reduceAdd]at h;refine ja m1 (qa rfl) ?_;exact ta
def KX(s):da code lib 279 [.flat (.string (S s))] [] []=some ([.flat (.bool (Hl.contains s))],false,[],[]):=by
 have h:=eP (lib:=lib) Hl s ha;obtain⟨v,a⟩:∃v,Hl.contains s=v:=⟨_,rfl⟩;rw[a]at h⊢;simp only[va,Hl,Xb,Fe,sa,Ca,Zc,Nat.reduceAdd]at h;refine ja k1 (qa rfl) ?_;exact ta
def zhz(s):da code lib 182 [.flat (.string (S s))] [] []=some ([.flat (.bool (Yi s))],false,[],[]):=by
 refine ja j1 (qa rfl) ?_;unfold Yi;rcases mb (s=[98,114])with a|a<;>rcases mb (s=[104,114])with b|b<;>rcases mb (s=[105,109,103])with c|c
 all_goals
  first|have d:=eq_false a|have d:=eq_true a
  first|have e:=eq_false b|have e:=eq_true b
  first|have g:=eq_false c|have g:=eq_true c
  clear a b c;exact ta
variable {lib:Callee}
structure Cb (B:Nat→Na) (n b e:Nat) (s:ba) (r:List (Nat × Nat)):Prop where
 len:∀ j,(B j).length=n
 get:∀ j,(B j)[b]? =some (e,rd s j)
 set:∀ i j,(B j).set b (e,rd s i)=B i
 lt:b<n
 low:∀ j,nf n (B j)=true
 hs:s.length≤100000000
 hr:∀ q∈r,q≠(b,1)
 fa:∀ q∈r,q.1<n
section
variable {B:Nat→Na} {n b e:Nat} {s:ba} {r:List (Nat × Nat)}
def Cb.app(H:Cb B n b e s r){m}(ys)(c:n+ys.length=m)(a:nf m ys=true):Cb (fun j=>B j++ys) m b e s r where
 len j:=by rw[Da,H.len];exact c
 get j:=by grind [get]
 set i j:=by rw[List.set_append_left _ _ (by rw[H.len];exact H.lt),H.set]
 lt:=by have:=H.lt;omega
 low j:=by rw[jH,jD aa _ (H.low j),a];rfl
 hs:=H.hs
 hr:=H.hr
 fa q hq:=by have:=H.fa q hq;omega
def Cb.Ix(H:Cb B n b e s r)(j)(ys):(B j++ys)[b]?=some (e,rd s j):=by grind [get]
def Cb.Gx(H:Cb B n b e s r)(j)(ys):(B j++ys)[n]?=ys[0]?:=by rw[Af (by rw[H.len];omega),H.len,Nat.sub_self]
def Cb.Hx(H:Cb B n b e s r)(j i)(ys):(B j++ys)[n+i]?=ys[i]?:=by rw[Af (by rw[H.len];omega),H.len,yi]
def Cb.Mx(H:Cb B n b e s r)(i j)(ys):(B j++ys).set b (e,rd s i)=B i++ys:=by rw[List.set_append_left _ _ (by rw[H.len];exact H.lt),H.set]
def Cb.Kx(H:Cb B n b e s r)(j)(ys)(q):(B j++ys).set n q=B j++ys.set 0 q:=by rw[du _ _ (by rw[H.len];omega),H.len,Nat.sub_self]
def Cb.Lx(H:Cb B n b e s r)(j i)(ys)(q):(B j++ys).set (n+i) q=B j++ys.set i q:=by rw[du _ _ (by rw[H.len];omega),H.len,yi]
def Cb.Jx(H:Cb B n b e s r)(j)(ys):(B j++ys).length=n+ys.length:=by rw[Da,H.len]
def Cb.Nx(H:Cb B n b e s r)(j)(ys):(B j++ys).take n=B j:=by rw[List.take_append_of_le_length (by rw[H.len];omega),xk (by rw[H.len];omega)]
def Cb.Ox(H:Cb B n b e s r)(j i)(ys):(B j++ys).take (n+i)=B j++ys.take i:=by
 rw[List.take_append,H.len,yi,xk (by rw[H.len];omega)]
def Cb.bv(H:Cb B n b e s r)(o m):Vd n o m (cl r)=cl r:=vy r H.fa
def Cb.Fy(H:Cb B n b e s r)(i o m):Vd (n+i) o m (cl r)=cl r:=vy r fun q a=>by have:=H.fa q a;omega
def Cb.Zw(H:Cb B n b e s r):sc n (cl r)=cl r:=pb r H.fa
def Cb.gB(H:Cb B n b e s r)(i):sc (n+i) (cl r)=cl r:=pb r fun q a=>by have:=H.fa q a;omega
def Cb.done(H:Cb B n b e s r)(k):da code lib 111 [.ptr b 0] (B k) (cl r)=some ([.flat (.bool (decide (s.length<=k)))],false,B k,cl r):=
 Ny (H.get k) (by rw[H.len];exact H.fa)
def Cb.take(H:Cb B n b e s r)(a:kc lib)(w){k}(c:k<=s.length)(d:w.length<=1000000000):da code lib 178 [.ptr b 0,.flat (.string (S w))] (B k) (cl r)=some ([.flat (.bool (w.isPrefixOf (s.drop k)))],false,B (if w.isPrefixOf (s.drop k)then k+w.length else k),cl r):=by
 have:=H.hs;have h:=hJ a (w:=w) (H.get k) aa d c H.hr (by rw[H.len];exact H.fa);rw[H.set]at h;exact h
def Cb.word(H:Cb B n b e s r){k:Nat}(a:k<=s.length):da code lib 179 [.ptr b 0,.cb 180 []] (B k) (cl r)=some ([.flat (.string (S (zb s k)))],false,B (k+(zb s k).length),cl r):=by
 have:=H.hs;have h:=SW (lib:=lib) (f:=180) (p:=Vk) (H.get k) aa a H.hr (by rw[H.len];exact H.fa) ha g_;rw[H.set]at h;exact h
def Cb.K5(H:Cb B n b e s r){k:Nat}(a:k<=s.length):da code lib 179 [.ptr b 0,.cb 242 []] (B k) (cl r)=some ([.flat (.string (S (Ah s k)))],false,B (k+(Ah s k).length),cl r):=by
 have:=H.hs;have h:=SW (lib:=lib) (f:=242) (p:=Uo) (H.get k) aa a H.hr (by rw[H.len];exact H.fa) ha aY;rw[H.set]at h;exact h
theorem Cb.oV(H:Cb B n b e s r)(c:kc lib)(a:Qb lib){k}{en bd}(d:k<=s.length):
 match Si s en bd k with
 |some (x,p)=>da code lib 184 [.ptr b 0,.flat (.int .u8 en.toNat),.flat (.int .u8 bd.toNat)] (B k) (cl r)=some ([.flat (.string (S x)),.flat (.bool true)],false,B p,cl r)
 |none=>∃k',k'<=s.length/\da code lib 184 [.ptr b 0,.flat (.int .u8 en.toNat),.flat (.int .u8 bd.toNat)] (B k) (cl r)=some ([.flat (.string (S [])),.flat (.bool false)],false,B k',cl r):=by
 have h:=zdP (lib:=lib) (en:=en) (bd:=bd) c a (H.get k) (by rw[H.len];exact H.low k) H.hs d H.hr (by rw[H.len];exact H.fa);simp only[H.set]at h;exact h
end
def zn{s}{k}(h:k<=s.length):k+(zb s k).length<=s.length:=by
 grind [List.takeWhile_prefix,zb]
def wv{s}{k}(h:k<=s.length):k+(Ah s k).length<=s.length:=by
 grind [List.takeWhile_prefix,Ah]
theorem nI{s:ba}{k}{c}:([c]:ba).isPrefixOf (s.drop k)=decide (s[k]?=some c):=by
 have a:s[k]?=(s.drop k)[0]?:=by rw[lg,ci]
 rw[a];cases s.drop k<;>grind
def fb(a:Qh):List PV:=[.flat (.string (S a.name)),.flat (.string (S a.val)),.flat (.int .i64 (a.fr:Nat)),.flat (.int .i64 (a.to:Nat))]
theorem JX{B}{n b e}{s}{r}(H:Cb B n b e s r)(W:kc lib)(HBZ:Qb lib){k}(hkZ:k<=s.length):
 match Cm s k with
 |some (a,p)=>da code lib 243 [.ptr b 0] (B k) (cl r)=some ([.agg (fb a),.flat (.bool true)],false,B p,cl r)
 |none=>∃a k',k'<=s.length/\da code lib 243 [.ptr b 0] (B k) (cl r)=some ([.agg (fb a),.flat (.bool false)],false,B k',cl r):=by
 have h0Z:=H.hs;have Q:=zn hkZ;have i:=H.Ix;have l:=H.Gx;have o:=H.Hx;have F:=H.Mx;have t:=H.Kx;have u:=H.Lx;have x:=H.Jx;have y:=H.Nx;have z:=H.Ox;have A:=H.len;have c:=H.low;have d:=H.bv;have g:=H.Fy;have C:=H.Zw;have D:=H.gB;have U:(⟨#[]⟩:ByteArray)=S []:=rfl;have X:∀V L,nf (n+2) [L,V]=true->Cb (fun j=>B j++[L,V]) (n+2) b e s r:=fun V L h=>H.app _ rfl h
 have K1Z:∀L,nf (n+1) [L]=true->Cb (fun j=>B j++[L]) (n+1) b e s r:=fun L h=>H.app _ rfl h
 have O:=(K1Z (282,[.flat (.string (S [])),.flat (.string (S [])),.flat (.int .i64 0),.flat (.int .i64 0)]) rfl).word (lib:=lib) hkZ;have I:=KX (lib:=lib) (zb s k);unfold Cm;obtain⟨w,hwd⟩:∃w,zb s k=w:=⟨_,rfl⟩;rw[hwd]at O I Q⊢;cases hcZ:Hl.contains w with
 |false=>
  rw[hcZ]at I;refine⟨⟨w,[],0,0⟩,k+w.length,Q,?_⟩;refine ja Yu (qa rfl) ?_;simp(maxSteps:=999999) (disch:=first|assumption|omega) only[go_sem,simprocAttr,au,U,O,I,i,l,o,t,u,x,y,z,A,c,d,g,C,D,rd,fb]
 |true=>
  rw[hcZ]at I;obtain⟨P,hk1⟩:∃P,k+w.length=P:=⟨_,rfl⟩;rw[hk1]at O Q⊢;obtain⟨K,hk2⟩:∃K,P+2=K:=⟨_,rfl⟩;have G:=(X (282,[.flat (.string (S w)),.flat (.string (S [])),.flat (.int .i64 0),.flat (.int .i64 0)]) (282,[.flat (.string (S [])),.flat (.string (S [])),.flat (.int .i64 0),.flat (.int .i64 0)]) rfl).take (lib:=lib) W [61,34] Q ha;have hbu:Ub s [61,34] P=([61,34]:ba).isPrefixOf (s.drop P):=by unfold Ub;simp only[Q,decide_true,pd]
  rw[hbu];cases hpZ:([61,34]:ba).isPrefixOf (s.drop P)with
  |false=>
   rw[hpZ]at G;simp only[Ha,if_false]at G;refine⟨⟨w,[],0,0⟩,P,Q,?_⟩;refine ja Yu (qa rfl) ?_;simp(maxSteps:=999999) (disch:=first|assumption|omega) only[go_sem,simprocAttr,au,U,O,I,G,i,l,o,F,t,u,x,y,z,A,c,d,g,C,D,rd,fb]
  |true=>
   rw[hpZ]at G;have T:=ln hpZ;rw[fc]at T;simp only[if_true,sa,Ca,Zc,Nat.reduceAdd,hk2]at G T⊢;have h2Z:K<=s.length:=aa
   have E:=(X (282,[.flat (.string (S w)),.flat (.string (S [])),.flat (.int .i64 (K:Nat)),.flat (.int .i64 0)]) (282,[.flat (.string (S [])),.flat (.string (S [])),.flat (.int .i64 0),.flat (.int .i64 0)]) rfl).oV (lib:=lib) (en:=34) (bd:=60) W HBZ h2Z;have Y:((UInt8.toNat 34:Nat):Int)=34:=rfl;have Z:((UInt8.toNat 60:Nat):Int)=60:=rfl;rw[Y,Z]at E;cases hEZ:Si s 34 60 K with
   |none=>
    rw[hEZ]at E;obtain⟨k',v,E⟩:=E;refine⟨⟨w,[],K,k'⟩,k',v,?_⟩;refine ja Yu (qa rfl) ?_;simp(maxSteps:=999999) (disch:=first|assumption|omega) only[go_sem,simprocAttr,au,U,O,I,G,E,i,l,o,F,t,u,x,y,z,A,c,d,g,C,D,rd,fb]
   |some q=>
    obtain⟨v,p⟩:=q;rw[hEZ]at E;have M:=Lt h2Z hEZ;dsimp only at E M⊢;have R:=(X (282,[.flat (.string (S w)),.flat (.string (S v)),.flat (.int .i64 (K:Nat)),.flat (.int .i64 (p:Nat))]) (282,[.flat (.string (S [])),.flat (.string (S [])),.flat (.int .i64 0),.flat (.int .i64 0)]) rfl).take (lib:=lib) W [34] M.2.1 ha;rw[nI]at R;by_cases J:p<s.length
    ·have N:(s[p]?=some 34)=True:=by
      rcases M.2.2.2 with h|h
      ·grind
      ·grind
     simp only[N,decide_true,if_true,sa,Ca,Zc]at R;simp only[Bg,if_true,J];refine ja Yu (qa rfl) ?_;simp(maxSteps:=999999) (disch:=first|assumption|omega) only[go_sem,simprocAttr,au,U,O,I,G,E,R,i,l,o,F,t,u,x,y,z,A,c,d,g,C,D,rd,fb,NI]
    ·have N:(s[p]?=some 34)=False:=eq_false la
     simp only[N,decide_false,Ha,if_false]at R;simp only[Bg,if_true,J,if_false];refine⟨⟨w,v,K,p⟩,p,aa,?_⟩;refine ja Yu (qa rfl) ?_;simp(maxSteps:=999999) (disch:=first|assumption|omega) only[go_sem,simprocAttr,au,U,O,I,G,E,R,i,l,o,F,t,u,x,y,z,A,c,d,g,C,D,rd,fb,NI]
variable {lib:Callee}
def uc(l:List Qh):List PV:=l.flatMap fb
def tX{n}(a):Ia n (fb a)=true:=rfl
theorem Zf:∀l,(uc l).length=l.length* 4
 |[]=>rfl
 |a::l=>by
  show(fb a++uc l).length=_;rw[Da,Zf l,sa];show 4+_=_;omega
theorem Wz{n}:∀{a b},Ia n (a++b)=(Ia n a&&Ia n b)
 |[],b=>by rfl
 |x::a,b=>by simp only[Fa,Ia,Wz,Bool.and_assoc]
theorem Ld{n}:∀l,Ia n (uc l)=true
 |[]=>rfl
 |a::l=>by show Ia n (fb a++uc l)=true;rw[Wz,Ld l];rfl
theorem zm:∀l,Eb (uc l)=true
 |[]=>rfl
 |a::l=>by
  show Eb (fb a++uc l)=true;simp only[fb,Fa,Ma,Eb,PV.sj,zm l,pd]
def aK{a b}:uc a++uc b=uc (a++b):=by simp[uc]
def RB{l}{k}{x}(h:l[k]?=some x):(uc l).drop (k* 4)=fb x++uc (l.drop (k+1)):=by
 induction l generalizing k with
 |nil=>cases h
 |cons a l b=>
  show(fb a++uc l).drop _=_;cases k with
  |zero=>
   grind
  |succ k=>
   rw[yk]at h;have e:(k+1)* 4=4+k* 4:=aa
   rw[e,<-Cd];show(uc l).drop _=_
   grind
def xY{bx ys:Na}{p:Nat}{q}(h:bx[p]?=some q):(bx++ys)[p]?=some q:=by
 grind
def wY{bx ys:Na}:(bx++ys)[bx.length]?=ys[0]?:=la
def yY{bx ys:Na}:(bx++ys).take bx.length=bx:=ea
def zaZ{bx}{r}{p e}{a}(c)(g:bx[p]?=some (e,fb a))(b:nf bx.length bx=true)(fa:∀q∈r,q.1<bx.length):
 da code lib 245 [.agg (fb c),.ptr p 0] bx (cl r)=some ([.flat (.bool (decide (c.name=a.name)))],false,bx,cl r):=by
 refine ja v1 (qa rfl) ?_;have d:=fun ys=>xY (ys:=ys) g
 simp only[fb]at d⊢;exact ye @wY @yY @Da.{0}
theorem AJ{p}{fin}{g:Nat->Out×St}:∀(L:List Qh)(k),(L.any p=false/\Ve (fun(_:Unit) k x=>if p x then .inr (g k)else .inl ()) fin () k L=fin ())\/(L.any p=true/\∃j,j<k+L.length/\Ve (fun(_:Unit) k x=>if p x then .inr (g k)else .inl ()) fin () k L=g j)
 |[],k=>.inl ⟨rfl,rfl⟩
 |x::t,k=>by
  rw[Ve,List.any_cons];cases h:p x with
  |true=>grind
  |false=>
   rw[if_neg ea,Wg];dsimp only;rcases AJ (fin:=fin) (g:=g) t (k+1)with a|⟨a,j,b,c⟩
   ·exact .inl a
   grind
def l6{bx}{r}{p e}{a}(L)(v:bx[p]?=some (e,fb a))(d:nf bx.length bx=true)(fa:∀q∈r,q.1<bx.length)(w:L.length<=1000000000):
 ∃i,(L.any (fun c=>decide (c.name=a.name))=decide (0<=i))/\da code lib 280 [.ga L.length (uc L),.cb 245 [.ptr p 0]] bx (cl r)=some ([.flat (.int .i64 i)],false,bx,cl r):=by
 have b:=fk (body:=oa (da code lib) ia QC) (live:=[0,1,7,8]) (nb:=bx.length) (fun(_:Unit) k=>⟨[(0,.ga L.length (uc L)),(1,.cb 245 [.ptr p 0]),(7,.flat (.int .i64 (L.length:Nat))),(8,.flat (.int .i64 (k:Nat)))],cl r,[],bx⟩) L (fun _ _=>True)
  (fun _ k x=>if decide (x.name=a.name)then .inr (.ret,⟨[(4,.flat (.int .i64 (k:Nat)))],cl r,[],bx⟩)else .inl ()) (fun _=>(.exit 0,⟨[],cl r,[],bx⟩)) (fun _ k x _ l u j=>?_) (fun _ _=>by simp only[go_sem,simprocAttr,Jb,ob,pb r fa]) (fun _ _ _ _ _ _ _ _=>trivial) (fun _ _ x r h=>by split at h<;>simp at h;rw[<-h];simp) (fun _ _=>?_) (fun _=>by simp) () trivial Im
 ·simp only[n0]at b
  rcases AJ (p:=fun x=>decide (x.name=a.name)) (fin:=fun _=>(.exit 0,⟨[],cl r,[],bx⟩)) (g:=fun k=>(.ret,⟨[(4,.flat (.int .i64 (k:Nat)))],cl r,[],bx⟩)) L 0 with⟨n,l⟩|⟨n,j,l,o⟩
  ·rw[l]at b
   refine⟨-1,la,?_⟩;refine ja RO (qa rfl) ?_;have t:Int.negSucc 0=-1:=rfl;exact ua @Zf
  ·rw[o]at b
   refine⟨j,la,?_⟩;refine ja RO (qa rfl) ?_;exact ua @Zf
 ·have j:=RB u
  have l:=zaZ (lib:=lib) x v d fa;simp only[fb,Fa,Ma]at j l;have t:∀i,(uc (L.drop (k+1))).length+1+1+1+1>=4:=fun _=>by omega
  have o:(245=4611686018427387904)=False:=eq_false ha;by_cases h:x.name=a.name
  ·have n:=eq_true h
   simp only[n,decide_true]at l⊢;simp(maxSteps:=999999) (disch:=first|assumption|omega) only[go_sem,simprocAttr,au,WH,j,l,o,Zf]
  ·have n:=eq_false h
   simp only[n,decide_false]at l⊢;exact Kb WH @Zf
 ·exact ua WH
def J1{bx}{r}{p e}{a}(L)(h:bx[p]?=some (e,fb a))(b:nf bx.length bx=true)(fa:∀q∈r,q.1<bx.length)(g:L.length<=1000000000):
 da code lib 244 [.ga L.length (uc L),.cb 245 [.ptr p 0]] bx (cl r)=some ([.flat (.bool (L.any (fun c=>decide (c.name=a.name))))],false,bx,cl r):=by
 obtain⟨i,d,j⟩:=l6 (lib:=lib) L h b fa g;refine ja d1 (qa rfl) ?_;rw[d];exact ta
def wa(t:Tok):List PV:=[.flat (.int .u8 t.kind.toNat),.flat (.string (S t.name)),.flat (.string (S t.text)),.ga t.Kk.length (uc t.Kk),.flat (.int .i64 (t.fr:Nat)),.flat (.int .i64 (t.to:Nat))]
def Uw{n}(t):Ia n (wa t)=true:=by
 grind [wa,Ia,PV.low,Ld]
def Cb.Tx{B}{n b e}{s}{r}(H:Cb B n b e s r){m}(ys)(c:n+ys.length=m)(a:nf m ys=true)(r')(hr:∀q∈r',q∈r\/(n<=q.1/\q.1<m)):Cb (fun j=>B j++ys) m b e s r' where
 len:=(H.app ys c a).len
 get:=(H.app ys c a).get
 set:=(H.app ys c a).set
 lt:=(H.app ys c a).lt
 low:=(H.app ys c a).low
 hs:=H.hs
 hr q hq:=by
  rcases hr q hq with h|h
  ·exact H.hr q h
  ·intro e;have:=H.lt;grind
 fa q hq:=by
  rcases hr q hq with h|h
  ·have:=H.fa q h;omega
  omega
def Cb.rX{B}{n b e}{s}{r}(H:Cb B n b e s r)(j i)(ys):nf (n+i) (B j++ys)=nf (n+i) ys:=by
 rw[jH,jD (Nat.le_add_right n i) _ (H.low j),pd]
def aC{s}{k}{q}(i:k<=s.length)(h:Cm s k=some q):k<q.2/\q.2<=s.length:=by
 unfold Cm at h;split at h
 ·rename_i c
  rw[cc]at c;have b:=c.2;unfold Ub at b;rw[cc]at b;have a:=ln b.2;rw[fc]at a;simp only[sa,Ca,decide_eq_true_eq]at a b;split at h
  ·cases h
  ·rename_i v e d
   have g:=Lt aa d
   grind
 grind
def vA{s}:∀a c,(a.2<=s.length/\a.1.length<=a.2)->Kf s a=.inl c->(c.2<=s.length/\c.1.length<=c.2)/\s.length - c.2<s.length - a.2:=by
 intro⟨l,k⟩ c ⟨b,d⟩ h;dsimp only at b d;have i:=wv b;unfold Kf at h;dsimp only at h;split at h
 ·cases h
 ·split at h
  ·cases h
  ·rename_i a e g
   have:=aC i g
   grind
theorem za4{B}{n b e}{s}{r}(H:Cb B n b e s r)(HPZ:kc lib)(HBZ:Qb lib)(w)(fr)(l)(k)(hkZ:k<=s.length)(hlZ:l.length<=k)(Z):
 match Kf s (l,k)with
 | .inl c=>oa (da code lib) ia ts ⟨[(0,.ptr b 0),(4,.ptr n 0),(6,.ptr (n+1) 0)],cl ((n+1,3)::(n,3)::r),[],B k++[(190,wa Z),(190,wa ⟨111,w,[],l,fr,0⟩)]⟩=some (.normal,⟨[(0,.ptr b 0),(4,.ptr n 0),(6,.ptr (n+1) 0)],cl ((n+1,3)::(n,3)::r),[],B c.2++[(190,wa Z),(190,wa ⟨111,w,[],c.1,fr,0⟩)]⟩)
 | .inr (some c)=>∃ow ys,sc n ow=cl r/\oa (da code lib) ia ts ⟨[(0,.ptr b 0),(4,.ptr n 0),(6,.ptr (n+1) 0)],cl ((n+1,3)::(n,3)::r),[],B k++[(190,wa Z),(190,wa ⟨111,w,[],l,fr,0⟩)]⟩=some (.ret,⟨[(4,.ptr n 0),(5,.flat (.bool true))],ow,[],B c.2++(190,wa ⟨111,w,[],c.1,fr,c.2⟩)::ys⟩)
 | .inr none=>∃t k' ow ys,k'<=s.length/\sc n ow=cl r/\oa (da code lib) ia ts ⟨[(0,.ptr b 0),(4,.ptr n 0),(6,.ptr (n+1) 0)],cl ((n+1,3)::(n,3)::r),[],B k++[(190,wa Z),(190,wa ⟨111,w,[],l,fr,0⟩)]⟩=some (.ret,⟨[(4,.ptr n 0),(5,.flat (.bool false))],ow,[],B k'++(190,wa t)::ys⟩):=by
 have hs:=H.hs;have x:=wv hkZ;have Y:=H.Ix;have D:=H.Gx;have y:=H.Hx;have hr4:=H.Mx;have F:=H.Kx;have G:=H.Lx;have I:=H.Jx;have J:=H.Nx;have K:=H.Ox;have L:=H.len;have o:=H.low;have A:=H.bv;have v:=H.Fy;have M:=H.Zw;have R:=H.gB;obtain⟨r2,i⟩:∃r2,r2=(n+1,3)::(n,3)::r:=⟨_,rfl⟩;obtain⟨r3,W⟩:∃r3,r3=(n+1,3)::r:=⟨_,rfl⟩;have P:Vd (n+1) 5 1 (cl r2)=cl r2:=by
  rw[i];show Vd (n+1) 5 1 (Loc.cell (n+1) 3::Loc.cell n 3::cl r)=Loc.cell (n+1) 3::Loc.cell n 3::cl r;rw[Tj,if_neg aa,Tj,if_neg aa,v]
 have z:Vd n 0 6 (cl r2)=cl r3:=by
  rw[i,W];show Vd n 0 6 (Loc.cell (n+1) 3::Loc.cell n 3::cl r)=Loc.cell (n+1) 3::cl r;rw[Tj,if_neg aa,Tj,if_pos aa,A]
 obtain⟨r4,E⟩:∃r4,r4=(n,3)::r:=⟨_,rfl⟩;have dz3:fe (Loc.cell (n+1) 3) (cl r2)=cl r4:=by
  rw[i,E];show fe _ (Loc.cell (n+1) 3::Loc.cell n 3::cl r)=Loc.cell n 3::cl r;rw[gv,if_pos ⟨rfl,rfl⟩,gv,if_neg aa,Lq];intro q u e;have:=H.fa q u;rw[e]at this;dsimp only at this;omega
 have dz4:Vd (n+1) 3 1 (cl r4)=cl r4:=by
  rw[E];show Vd (n+1) 3 1 (Loc.cell n 3::cl r)=Loc.cell n 3::cl r;rw[Tj,if_neg aa,v]
 have ow1:owns (cl r2) (Loc.cell (n+1) 3)=true:=by
  rw[i];show owns (Loc.cell (n+1) 3::Loc.cell n 3::cl r) _=true;rw[kU];simp
 have hc4:Loc.cell (n+1) 3::cl r4=cl r2:=by rw[i,E];rfl
 have T:sc n (cl r3)=cl r:=by
  rw[W];show sc n (Loc.cell (n+1) 3::cl r)=cl r;rw[xl,if_neg aa,M]
 rw[<-i];have K2Z:Cb (fun j=>B j++[(190,wa Z),(190,wa ⟨111,w,[],l,fr,0⟩)]) (n+2) b e s r2:=H.Tx (m:=n+2) _ rfl (by simp only[Hm,Lu,Uw,Bg]) r2 (by
  grind)
 have C:=K2Z.bv;have hblt:=H.lt;have hlt2:=rO r2 K2Z.fa;have U:=K2Z.K5 (lib:=lib) hkZ;unfold Kf;dsimp only;obtain⟨g,hgZ⟩:∃g,Ah s k=g:=⟨_,rfl⟩;rw[hgZ]at U x⊢;obtain⟨X,hk1⟩:∃X,k+g.length=X:=⟨_,rfl⟩;rw[hk1]at U x⊢;have O:=K2Z.take (lib:=lib) HPZ [62] x ha;have hbu:Ub s [62] X=([62]:ba).isPrefixOf (s.drop X):=by unfold Ub;simp only[x,decide_true,pd]
 rw[hbu];have d:((UInt8.toNat 111:Nat):Int)=111:=rfl;simp only[wa,n0,d]at U O⊢;cases hpZ:([62]:ba).isPrefixOf (s.drop X)with
 |true=>
  rw[hpZ]at O;simp only[if_true,sa,Ca,Zc]at O⊢;refine⟨cl r3,[(190,wa ⟨111,w,[],l,fr,X+1⟩)],T,?_⟩
  ·simp only[wa,d]
   simp(maxSteps:=999999) (disch:=first|assumption|omega) only[go_sem,simprocAttr,au,mw,U,O,Y,D,y,F,G,I,J,K,L,o,A,v,M,R,P,z,C,rd]
 |false=>
  rw[hpZ]at O;simp only[Ha,if_false]at O⊢;have N:=JX K2Z HPZ HBZ (k:=X) x;cases hEZ:Cm s X with
  |none=>
   rw[hEZ]at N;obtain⟨a,k',u,N⟩:=N;simp only[wa,n0,d,fb]at N⊢;refine⟨⟨111,w,[],l,fr,0⟩,k',cl r3,[(190,wa ⟨111,w,[],l,fr,0⟩),(282,fb a)],u,T,?_⟩;simp only[wa,n0,d,fb];simp(maxSteps:=999999) (disch:=first|assumption|omega) only[go_sem,simprocAttr,au,mw,U,O,N,D,y,F,G,I,J,K,L,o,A,v,M,R,P,z,C,rd]
  |some q=>
   obtain⟨a,p⟩:=q;rw[hEZ]at N;have hel:=aC x hEZ;have K3Z:Cb (fun j=>B j++[(190,wa Z),(190,wa ⟨111,w,[],l,fr,0⟩),(282,fb a)]) (n+3) b e s r2:=H.Tx (m:=n+3) _ rfl (by simp only[Hm,Lu,Uw,tX,Bg]) r2 (by
    grind)
   have hCZ:=J1 (lib:=lib) (a:=a) (p:=n+2) (e:=282) l (y p 2 [(190,wa Z),(190,wa ⟨111,w,[],l,fr,0⟩),(282,fb a)]) (by rw[K3Z.len];exact K3Z.low p) (by rw[K3Z.len];exact K3Z.fa) aa;simp only[wa,n0,d,fb]at N hCZ⊢;by_cases Q:g.length=0
   ·have u:=eq_true (qz Q)
    simp only[Q,true_or,if_true];refine⟨⟨111,w,[],l,fr,0⟩,p,cl r3,[(190,wa ⟨111,w,[],l,fr,0⟩),(282,fb a)],hel.2,T,?_⟩;simp only[wa,n0,d,fb];have hzZ:(⟨#[]⟩:ByteArray)=S []:=rfl;simp(maxSteps:=999999) (disch:=first|assumption|omega) only[go_sem,simprocAttr,au,mw,U,O,N,u,hzZ,D,y,hr4,F,G,I,J,K,L,o,A,v,M,R,P,z,C,rd]
   ·have u:(g=[])=False:=eq_false fun h=>Q (by rw[h];rfl)
    simp only[Q,false_or];have hzZ:(⟨#[]⟩:ByteArray)=S []:=rfl;cases V:l.any (fun c=>decide (c.name=a.name))with
    |true=>
     rw[V]at hCZ;simp only[if_true];refine⟨⟨111,w,[],l,fr,0⟩,p,cl r3,[(190,wa ⟨111,w,[],l,fr,0⟩),(282,fb a)],hel.2,T,?_⟩;simp only[wa,n0,d,fb];simp(maxSteps:=999999) (disch:=first|assumption|omega) only[go_sem,simprocAttr,au,mw,U,O,N,hCZ,u,hzZ,Y,D,y,hr4,F,G,I,J,K,L,o,A,v,M,R,P,z,C,rd]
    |false=>
     rw[V]at hCZ;simp only[Ha,if_false];have hl2:=H.rX;have hac:uc l++[PV.flat (.string (S a.name)),.flat (.string (S a.val)),.flat (.int .i64 (a.fr:Nat)),.flat (.int .i64 (a.to:Nat))]=uc (l++[a]):=by rw[<-aK];rfl
     have hbd:l.length+1<=za:=Ie
     simp(maxSteps:=999999) (disch:=first|assumption|omega) only[go_sem,simprocAttr,au,mw,U,O,N,hCZ,u,hzZ,Y,D,y,hr4,F,G,I,J,K,L,o,hl2,z,C,Zf,Ld,hbd,dz3,dz4,ow1,hc4,hac,hlt2,Da]
def Z0:Tok:=⟨0,[],[],[],0,0⟩
theorem za2{B}{n b e}{s}{r}(H:Cb B n b e s r)(HPZ:kc lib)(HBZ:Qb lib)(fr k)(hkZ:k<=s.length):
 match(if sg.contains (zb s k)then lk s (k+(zb s k).length)else none)with
 |some (l,p)=>da code lib 183 [.ptr b 0,.flat (.int .i64 (fr:Nat))] (B k) (cl r)=some ([.agg (wa ⟨111,zb s k,[],l,fr,p⟩),.flat (.bool true)],false,B p,cl r)/\p<=s.length
 |none=>∃t k',k'<=s.length/\da code lib 183 [.ptr b 0,.flat (.int .i64 (fr:Nat))] (B k) (cl r)=some ([.agg (wa t),.flat (.bool false)],false,B k',cl r):=by
 have h0Z:=H.hs;have h1Z:=zn hkZ;have M:=H.Ix;have N:=H.Gx;have O:=H.Hx;have P:=H.Mx;have Q:=H.Kx;have R:=H.Lx;have F:=H.Jx;have T:=H.Nx;have U:=H.Ox;have V:=H.len;have z:=H.low;have D:=H.bv;have K:=H.Fy;have A:=H.Zw;have W:=H.gB;have hblt:=H.lt;have hzZ:(⟨#[]⟩:ByteArray)=S []:=rfl;have x:((UInt8.toNat 111:Nat):Int)=111:=rfl;have ez0:wa Z0=[.flat (.int .u8 0),.flat (.string (S [])),.flat (.string (S [])),.ga 0 [],.flat (.int .i64 0),.flat (.int .i64 0)]:=rfl;obtain⟨r2,i⟩:∃r2,r2=(n+1,3)::(n,3)::r:=⟨_,rfl⟩;obtain⟨r4,d⟩:∃r4,r4=(n,3)::r:=⟨_,rfl⟩;have y:Loc.cell n 3::cl r=cl r4:=by rw[d];rfl
 have u:Loc.cell (n+1) 3::cl r4=cl r2:=by rw[i,d];rfl
 have G:sc n (cl r4)=cl r:=by
  rw[d];show sc n (Loc.cell n 3::cl r)=cl r;rw[xl,if_neg aa,A]
 have X:sc n (cl r2)=cl r:=by
  rw[<-u,xl,if_neg aa,G]
 have I:Vd (n+1) 0 6 (cl r2)=cl r4:=by
  rw[<-u,Tj,if_pos aa];exact vy r4 (by
   rw[d];intro q g;rcases wb.1 g with rfl|g
   ·omega
   ·have:=H.fa q g;omega)
 have J:Vd n 0 6 (cl r2)=Loc.cell (n+1) 3::cl r:=by
  rw[<-u,Tj,if_neg aa,d];show _::Vd n 0 6 (Loc.cell n 3::cl r)=_;rw[Tj,if_pos aa,D]
 have C:sc (n+2) (cl r2)=cl r2:=pb r2 (by
  rw[i];intro q g;rcases wb.1 g with rfl|g
  ·omega
  rcases wb.1 g with rfl|g
  ·omega
  ·have:=H.fa q g;omega)
 have Y:sc n (Loc.cell (n+1) 3::cl r)=cl r:=by rw[xl,if_neg aa,A]
 have K1Z:Cb (fun j=>B j++[(190,wa Z0)]) (n+1) b e s r4:=H.Tx (m:=n+1) _ rfl (by simp only[Hm,Lu,Uw,Bg]) r4 (by
  grind)
 have Z:=K1Z.word (lib:=lib) hkZ;have v:=SP (lib:=lib) (zb s k);obtain⟨w,hwd⟩:∃w,zb s k=w:=⟨_,rfl⟩;rw[hwd]at Z v h1Z⊢;obtain⟨k1Z,hk1⟩:∃k1Z,k+w.length=k1Z:=⟨_,rfl⟩;rw[hk1]at Z h1Z⊢;cases hcZ:sg.contains w with
 |false=>
  rw[hcZ]at v;simp only[Ha,if_false];refine⟨⟨111,w,[],[],fr,0⟩,k1Z,h1Z,?_⟩;simp only[ez0]at Z;simp only[wa,x,n0,uc,mg,Ca];refine ja MD (qa rfl) ?_;simp(maxSteps:=999999) (disch:=first|assumption|omega) only[go_sem,simprocAttr,au,hzZ,Z,v,y,u,M,N,O,P,Q,R,F,T,U,V,z,D,K,A,W,X,G,Y,I,J,rd]
 |true=>
  rw[hcZ]at v;simp only[if_true]
  have hrel:=Sl (body:=oa (da code lib) ia ts) (live:=[0,4,6]) (nb:=n+2)
   (fun(_:Unit)(q:List Qh×Nat)=>(⟨[(0,.ptr b 0),(4,.ptr n 0),(6,.ptr (n+1) 0)],cl ((n+1,3)::(n,3)::r),[],B q.2++[(190,wa Z0),(190,wa ⟨111,w,[],q.1,fr,0⟩)]⟩:St))
   (Kf s) none (fun a o st=>match a with
     |some c=>c.2<=s.length/\o=.ret/\∃ow ys,sc n ow=cl r/\st=⟨[(4,.ptr n 0),(5,.flat (.bool true))],ow,[],B c.2++(190,wa ⟨111,w,[],c.1,fr,c.2⟩)::ys⟩
     |none=>o=.ret/\∃t k' ow ys,k'<=s.length/\sc n ow=cl r/\st=⟨[(4,.ptr n 0),(5,.flat (.bool false))],ow,[],B k'++(190,wa t)::ys⟩)
   (fun a=>a.2<=s.length/\a.1.length<=a.2) (fun a=>s.length - a.2) (fun _ ⟨l,j⟩ hiZ=>?_) (fun _ ⟨l,j⟩ hiZ=>?_) (fun a c hiZ h=>vA a c hiZ h) (n:=s.length+1) (m:=ia) () ([],k1Z) ⟨h1Z,Ab _⟩ aa (by grind [ia])
  ·obtain⟨o,st,L,g⟩:=hrel
   have E:Ob (Kf s) none (s.length+1) ([],k1Z)=lk s k1Z:=rfl;rw[E]at g;rw[<-i]at L;simp only[ez0]at Z L;simp only[wa,x,n0,uc,mg,Ca]at L;cases hEZ:lk s k1Z with
   |some c=>
    rw[hEZ]at g;obtain⟨hc2,rfl,ow,ys,huZ,rfl⟩:=g;dsimp only;refine⟨?_,hc2⟩;refine ja MD (qa rfl) ?_;simp only[wa,x]at L⊢;simp(maxSteps:=999999) (disch:=first|assumption|omega) only[go_sem,simprocAttr,au,hzZ,Z,v,L,huZ,C,y,u,M,N,O,P,Q,R,F,T,U,V,z,D,K,A,W,X,G,Y,I,J,rd,Ld]
   |none=>
    rw[hEZ]at g;obtain⟨rfl,t,k',ow,ys,hk',huZ,rfl⟩:=g;dsimp only;refine⟨t,k',hk',?_⟩;refine ja MD (qa rfl) ?_;simp only[wa]at L⊢;simp(maxSteps:=999999) (disch:=first|assumption|omega) only[go_sem,simprocAttr,au,hzZ,Z,v,L,huZ,C,y,u,M,N,O,P,Q,R,F,T,U,V,z,D,K,A,W,X,G,Y,I,J,rd,Ld]
  ·have:=za4 H HPZ HBZ w fr l j hiZ.1 hiZ.2 Z0
   cases E:Kf s (l,j)with
   |inl c=>rw[E]at this;exact⟨(),this⟩
   |inr c=>
    rw[E]at this;cases c with
    |none=>
     obtain⟨t,k',ow,ys,L,h3Z,h4Z⟩:=this;exact⟨_,_,h4Z,ea,rfl,t,k',ow,ys,L,h3Z,rfl⟩
    |some c=>
     obtain⟨ow,ys,L,h3Z⟩:=this;refine⟨_,_,h3Z,ea,?_,rfl,ow,ys,L,rfl⟩
     grind [Kf,Ub]
  ·rw[<-i]
   simp(maxSteps:=999999) (disch:=first|assumption|omega) only[go_sem,simprocAttr,au,F,C]
def Lr{s w:ba}{k}(a:k<=s.length)(h:w.isPrefixOf (s.drop k)=true):k+w.length<=s.length:=by
 grind
theorem zaj{B}{n b e}{s}{r}(H:Cb B n b e s r)(HPZ:kc lib)(HBZ:Qb lib)(k)(hkZ:k<=s.length):
 match rj s k with
 |some t=>da code lib 112 [.ptr b 0] (B k) (cl r)=some ([.agg (wa t),.flat (.bool true)],false,B t.to,cl r)/\t.to<=s.length
 |none=>∃t k',k'<=s.length/\da code lib 112 [.ptr b 0] (B k) (cl r)=some ([.agg (wa t),.flat (.bool false)],false,B k',cl r):=by
 have h0Z:=H.hs;have z:=H.Ix;have A:=H.Gx;have M:=H.Hx;have N:=H.Mx;have C:=H.Kx;have D:=H.Lx;have E:=H.Jx;have F:=H.Nx;have G:=H.Ox;have I:=H.len;have c:=H.low;have h:=H.bv;have y:=H.Fy;have o:=H.Zw;have J:=H.gB;have hblt:=H.lt;have W:(⟨#[]⟩:ByteArray)=S []:=rfl;have e111:((UInt8.toNat 111:Nat):Int)=111:=rfl;have T:((UInt8.toNat 99:Nat):Int)=99:=rfl;have V:((UInt8.toNat 116:Nat):Int)=116:=rfl;have e60:((UInt8.toNat 60:Nat):Int)=60:=rfl;have e62:((UInt8.toNat 62:Nat):Int)=62:=rfl;have P:wa Z0=[.flat (.int .u8 0),.flat (.string (S [])),.flat (.string (S [])),.ga 0 [],.flat (.int .i64 0),.flat (.int .i64 0)]:=rfl;obtain⟨r4,hr4'⟩:∃r4,r4=(n,3)::r:=⟨_,rfl⟩;have a:Loc.cell n 3::cl r=cl r4:=by rw[hr4'];rfl
 have K:sc n (cl r4)=cl r:=by rw[<-a,xl,if_neg aa,o]
 have u:Vd n 0 6 (cl r4)=cl r:=by rw[<-a,Tj,if_pos aa,h]
 have K1Z:Cb (fun j=>B j++[(190,wa Z0)]) (n+1) b e s r4:=H.Tx (m:=n+1) _ rfl (by simp only[Hm,Lu,Uw,Bg]) r4 (by
  grind)
 have d:=K1Z.Zw;have mh:∀(w:ba)(k:Nat),k<=s.length->w.length<=1000000000->da code lib 178 [.ptr b 0,.flat (.string (S w))] (B k++[(190,wa Z0)]) (cl r4)=some ([.flat (.bool (Ub s w k))],false,B (if Ub s w k then k+w.length else k)++[(190,wa Z0)],cl r4):=fun w k h1Z Q=>by
  rw[fj h1Z];exact K1Z.take HPZ w h1Z Q
 have L:∀{w:ba}{k:Nat},k<=s.length->Ub s w k=true->k+w.length<=s.length:=fun h1Z Q=>Lr h1Z (by grind [fj])
 have g:=mh [60,47] k hkZ ha;have v:=mh [60] k hkZ ha;unfold rj;simp only[P]at g v mh;cases Y:Ub s [60,47] k with
 |true=>
  have Q:=L hkZ Y;simp only[Y,if_true,sa,Ca,Zc,Nat.reduceAdd]at g Q⊢;obtain⟨k2Z,hk2⟩:∃k2Z,k+2=k2Z:=⟨_,rfl⟩;rw[hk2]at g Q⊢;have hwZ:=K1Z.word (lib:=lib) Q;have X:=zn Q;have i:=SP (lib:=lib) (zb s k2Z);have O:=zhz (lib:=lib) (zb s k2Z);obtain⟨w,hwd⟩:∃w,zb s k2Z=w:=⟨_,rfl⟩;rw[hwd]at hwZ i O X⊢;obtain⟨R,hk3⟩:∃R,k2Z+w.length=R:=⟨_,rfl⟩;rw[hk3]at hwZ X⊢;have U:=mh [62] R X ha;simp only[P]at hwZ;cases hc1:sg.contains w with
  |false=>
   rw[hc1]at i;simp only[De,Ha,if_false];refine⟨⟨99,w,[],[],k,R⟩,R,X,?_⟩;simp only[wa,T,uc,mg,Ca];refine ja gp (qa rfl) ?_;simp(maxSteps:=999999) (disch:=first|assumption|omega) only[go_sem,simprocAttr,au,W,g,hwZ,i,a,z,A,C,D,E,F,G,I,c,h,y,o,J,K,u,d,rd]
  |true=>
   rw[hc1]at i;cases hc2:Yi w with
   |true=>
    rw[hc2]at O;simp only[nm,De,fi,Ha,if_false];refine⟨⟨99,w,[],[],k,R⟩,R,X,?_⟩;simp only[wa,T,uc,mg,Ca];refine ja gp (qa rfl) ?_;simp(maxSteps:=999999) (disch:=first|assumption|omega) only[go_sem,simprocAttr,au,W,g,hwZ,i,O,a,z,A,C,D,E,F,G,I,c,h,y,o,J,K,u,d,rd]
   |false=>
    rw[hc2]at O;cases Z:Ub s [62] R with
    |false=>
     simp only[Z,Ha,if_false]at U;simp only[pn,fi,Ha,if_false];refine⟨⟨99,w,[],[],k,R⟩,R,X,?_⟩;simp only[wa,T,uc,mg,Ca];refine ja gp (qa rfl) ?_;simp(maxSteps:=999999) (disch:=first|assumption|omega) only[go_sem,simprocAttr,au,W,g,hwZ,i,O,U,a,z,A,M,N,C,D,E,F,G,I,c,h,y,o,J,K,u,d,rd]
    |true=>
     have h4Z:=L X Z;simp only[Z,if_true,sa,Ca,Zc]at U h4Z;simp only[pn,Bg,if_true];refine⟨?_,h4Z⟩;simp only[wa,T,uc,mg,Ca];refine ja gp (qa rfl) ?_;simp(maxSteps:=999999) (disch:=first|assumption|omega) only[go_sem,simprocAttr,au,W,g,hwZ,i,O,U,a,z,A,M,N,C,D,E,F,G,I,c,h,y,o,J,K,u,d,rd]
 |false=>
  simp only[Y,Ha,if_false]at g⊢;cases Z:Ub s [60] k with
  |true=>
   have Q:=L hkZ Z;simp only[Z,if_true,sa,Ca,Zc]at v Q⊢;have O:=za2 (lib:=lib) K1Z HPZ HBZ k (k+1) Q;obtain⟨R,hk1⟩:∃R,k+1=R:=⟨_,rfl⟩;rw[hk1]at v Q O⊢;obtain⟨x,hxZ⟩:∃x,(if sg.contains (zb s R)then lk s (R+(zb s R).length)else none)=x:=⟨_,rfl⟩;have U:(if sg.contains (zb s R)then(lk s (R+(zb s R).length)).map (fun q=>(⟨111,zb s R,[],q.1,k,q.2⟩:Tok))else none)=x.map (fun q=>(⟨111,zb s R,[],q.1,k,q.2⟩:Tok)):=by
    rw[<-hxZ];split<;>rfl
   rw[U];rw[hxZ]at O;cases x with
   |none=>
    obtain⟨t,k',X,O⟩:=O;simp only[aj];refine⟨t,k',X,?_⟩;simp only[P]at O;simp only[wa]at O⊢;refine ja gp (qa rfl) ?_;simp(maxSteps:=999999) (disch:=first|assumption|omega) only[go_sem,simprocAttr,au,W,g,v,O,a,z,A,M,N,C,D,E,F,G,I,c,h,y,o,J,K,u,d,rd,Ld]
   |some q=>
    obtain⟨l,p⟩:=q;obtain⟨O,hpZ⟩:=O;simp only[jd];refine⟨?_,hpZ⟩;simp only[P]at O;simp only[wa,e111]at O⊢;refine ja gp (qa rfl) ?_;simp(maxSteps:=999999) (disch:=first|assumption|omega) only[go_sem,simprocAttr,au,W,g,v,O,a,z,A,M,N,C,D,E,F,G,I,c,h,y,o,J,K,u,d,rd,Ld]
  |false=>
   simp only[Z,Ha,if_false]at v⊢;have O:=K1Z.oV (lib:=lib) (en:=60) (bd:=62) HPZ HBZ hkZ;simp only[P,e60,e62]at O;cases R:Si s 60 62 k with
   |none=>
    rw[R]at O;obtain⟨k',X,O⟩:=O;simp only[aj];refine⟨⟨116,[],[],[],k,k'⟩,k',X,?_⟩;simp only[wa,V,uc,mg,Ca];refine ja gp (qa rfl) ?_;simp(maxSteps:=999999) (disch:=first|assumption|omega) only[go_sem,simprocAttr,au,W,g,v,O,a,z,A,M,N,C,D,E,F,G,I,c,h,y,o,J,K,u,d,rd,Ld]
   |some q=>
    obtain⟨x,p⟩:=q;have i:=Lt hkZ R;rw[R]at O;simp only[jd];refine⟨?_,i.2.1⟩;simp only[wa,V,uc,mg,Ca];refine ja gp (qa rfl) ?_;simp(maxSteps:=999999) (disch:=first|assumption|omega) only[go_sem,simprocAttr,au,W,g,v,O,a,z,A,M,N,C,D,E,F,G,I,c,h,y,o,J,K,u,d,rd,Ld]
def qc(l:List Tok):List PV:=l.flatMap wa
theorem Uf:∀l,(qc l).length=l.length* 6
 |[]=>rfl
 |a::l=>by
  show(wa a++qc l).length=_;rw[Da,Uf l,sa];show 6+_=_;omega
theorem gm{n}:∀l,Ia n (qc l)=true
 |[]=>rfl
 |a::l=>by show Ia n (wa a++qc l)=true;rw[Wz,gm l,Uw];rfl
theorem Vw:∀l,Eb (qc l)=true
 |[]=>rfl
 |a::l=>by
  show Eb (wa a++qc l)=true;simp only[wa,Fa,Ma,Eb,PV.sj,zm,Vw l,pd]
def nW{a b}:qc a++qc b=qc (a++b):=by simp[qc]
def zag{s}{k}{t}(n:k<s.length)(h:rj s k=some t):k<t.to:=by
 unfold rj at h;split at h
 ·grind
 ·split at h
  ·split at h
   ·obtain⟨q,b,rfl⟩:=qm h
    dsimp only;have e:k+1<=s.length:=aa
    have i:=zn e;have:=rk (step:=Kf s) (d:=none) (I:=fun a=>(a.2<=s.length/\a.1.length<=a.2)/\k<a.2) (μ:=fun a=>s.length - a.2) (Q:=fun r=>∀q,r=some q->k<q.2) (fun a g=>by
     cases hs:Kf s a with
     |inl c=>
      obtain⟨j,l⟩:=vA a c g.1 hs;omega
     |inr r=>
      grind [Kf]) (s.length+1) ([],k+1+(zb s (k+1)).length) ⟨⟨i,ea⟩,aa⟩ aa
    exact this q b
   grind
  ·rename_i e
   obtain⟨q,b,rfl⟩:=qm h;have g:=Lt aa b
   grind [fj,nI]
def cB{s}(e:∀k t,k<=s.length->rj s k=some t->t.to<=s.length):∀a c,(a.2<=s.length/\a.1.length<=a.2)->ti s a=.inl c->(c.2<=s.length/\c.1.length<=c.2)/\s.length - c.2<s.length - a.2:=by
 intro⟨l,k⟩ c ⟨b,d⟩ h;dsimp only at b d;unfold ti at h;dsimp only at h;split at h
 ·cases h
 ·rename_i fa
  split at h
  ·cases h
  ·rename_i t ht
   have g:=zag aa ht
   grind
def zdN{s}{en bd}{k}{q}(a:k<=s.length)(h:Si s en bd k=some q):q.2<=s.length:=(Lt a h).2.1
def za0{s}{k}{q}(g:k<=s.length)(h:lk s k=some q):q.2<=s.length:=by
 have:=rk (step:=Kf s) (d:=none) (I:=fun a=>a.2<=s.length/\a.1.length<=a.2\/(a.1=[]/\a.2<=s.length)) (μ:=fun a=>s.length - a.2) (Q:=fun r=>∀q,r=some q->q.2<=s.length) (fun a e=>by
  have b:a.2<=s.length/\a.1.length<=a.2:=by
   rcases e with h|⟨h,i⟩
   ·exact h
   ·grind
  cases hs:Kf s a with
  |inl c=>
   obtain⟨i,j⟩:=vA a c b hs;omega
  |inr r=>
   intro q i;subst i;have j:=wv b.1
   grind [Kf,fj]) (s.length+1) ([],k) (.inr ⟨rfl,g⟩) aa
 exact this q h
def bA{s}{k}{t}(b:k<=s.length)(h:rj s k=some t):t.to<=s.length:=by
 unfold rj at h;split at h
 ·rename_i d
  have a:=Lr b (by rw[<-fj b];exact d);simp only[sa,Ca]at a;split at h
  ·rename_i c
   simp only[cc]at c;have e:=zn a
   grind [fj]
  grind
 ·split at h
  ·rename_i d
   have a:=Lr b (by rw[<-fj b];exact d);simp only[sa,Ca]at a;split at h
   ·obtain⟨q,c,rfl⟩:=qm h
    exact za0 (zn a) c
   grind
  ·obtain⟨q,c,rfl⟩:=qm h
   exact zdN b c
def Br(s:ba)(j:Nat):Na:=[(187,rd s j)]
def zc2{s}(hs:s.length<=100000000):Cb (Br s) 1 0 187 s [] where
 len _:=rfl
 get _:=rfl
 set _ _:=rfl
 lt:=aa
 low _:=rfl
 hs:=hs
 hr q h:=by cases h
 fa q h:=by cases h
theorem jJ(u:kc lib)(r:Qb lib)(s)(hs:s.length<=100000000):
 da code lib 56 [.flat (.string (S s))] [] []=match Wi s with
 |some l=>some ([.ga l.length (qc l),.flat (.int .i64 0)],false,[],[])
 |none=>some ([.ga 0 [],.flat (.int .i64 7)],false,[],[]):=by
 have x:(⟨#[]⟩:ByteArray)=S []:=rfl;have H:=zc2 hs;have g:=PR (lib:=lib) s (by grind [Sm])
 have hrel:=Sl (body:=oa (da code lib) ia SC) (live:=[4,5]) (nb:=1) (fun(_:Unit)(q:List Tok×Nat)=>(⟨[(4,.ptr 0 0),(5,.ga q.1.length (qc q.1))],[.slot 5],[],Br s q.2⟩:St))
  (ti s) none (fun q o st=>match q with
    |some l=>o=.exit 0/\∃k',st=⟨[(5,.ga l.length (qc l))],[.slot 5],[],Br s k'⟩
    |none=>o=.ret/\∃y z,st=⟨[(2,.ga 0 []),(3,.flat (.int .i64 7))],[.slot 2],[],[y,z]⟩) (fun q=>q.2<=s.length/\q.1.length<=q.2) (fun q=>s.length - q.2) (fun _ ⟨l,j⟩ i=>?_) (fun _ ⟨l,j⟩ i=>?_) (fun a c b h=>cB (fun k t=>bA) a c b h) (n:=s.length+1) (m:=ia) () ([],0) ⟨Ab _,Aa _⟩ aa (by grind [ia])
 ·unfold Wi
  cases p:Vh s with
  |false=>
   rw[p]at g;simp only[Ha,if_false];refine ja LD (qa rfl) ?_;exact ta
  |true=>
   rw[p]at g;simp only[if_true];obtain⟨o,st,d,b⟩:=hrel;simp only[Br,rd,qc,mg,Ca,n0]at d;cases e:Ob (ti s) none (s.length+1) ([],0)with
   |some l=>
    rw[e]at b;obtain⟨rfl,k',rfl⟩:=b;refine ja LD (qa rfl) ?_;simp only[Br,rd]at d;exact ua @gm
   |none=>
    rw[e]at b;obtain⟨rfl,y,z,rfl⟩:=b;refine ja LD (qa rfl) ?_;exact ua @gm
 ·dsimp only at i⊢
  have b:=H.done (lib:=lib) j;unfold ti;dsimp only;by_cases fa:s.length<=j
  ·have d:=eq_true fa
   simp only[fa,decide_true,if_true]at b⊢;refine⟨.exit 0,⟨[(5,.ga l.length (qc l))],[.slot 5],[],Br s j⟩,?_,ea,rfl,j,rfl⟩;simp only[Br,rd,Zo]at b⊢;exact ua YH
  ·simp only[fa,decide_false,if_false]at b⊢
   have d:=zaj (lib:=lib) H u r j i.1;cases e:rj s j with
   |none=>
    rw[e]at d;obtain⟨t,k',p,d⟩:=d;refine⟨.ret,⟨[(2,.ga 0 []),(3,.flat (.int .i64 7))],[.slot 2],[],[(187,rd s k'),(190,wa t)]⟩,?_,ea,rfl,_,_,rfl⟩;simp only[Br,rd,Zo,wa]at b d⊢;exact ua YH
   |some t=>
    rw[e]at d;obtain⟨d,w⟩:=d;refine⟨(),?_⟩;simp only[Br,rd,Zo,wa]at b d⊢;have v:l.length+1<=za:=Ie
    have p:qc l++[.flat (.int .u8 t.kind.toNat),.flat (.string (S t.name)),.flat (.string (S t.text)),.ga t.Kk.length (uc t.Kk),.flat (.int .i64 (t.fr:Nat)),.flat (.int .i64 (t.to:Nat))]=qc (l++[t]):=by rw[<-nW];rfl
    exact mj YH @Uf @Ld @gm @Da.{0}
 ·simp(maxSteps:=999999) (disch:=first|assumption|omega) only[go_sem,simprocAttr,au,Br]
def A2(c:UInt8)(base:Nat)(k:base<=16):da code lib 292 [.flat (.int .u8 c.toNat),.flat (.int .i64 (base:Nat))] [] []=some ([.flat (.int .i64 (if wd c.toNat<base then(wd c.toNat:Int)else-1))],false,[],[]):=by
 refine ja p0 (qa rfl) ?_;have h:Int.negSucc 0=-1:=rfl;have i:=c.toNat_lt;obtain⟨n,j⟩:∃n,c.toNat=n:=⟨_,rfl⟩;rw[j]at i⊢;rcases mb (48<=n/\n<=57)with b|b
 ·have a:wd n=n - 48:=by unfold wd;rw[if_pos b]
  rw[a];by_cases fa:n - 48<base
  ·rw[if_pos fa]
   have e:((n - 48:Nat):Int)=(n:Int) - 48:=aa
   rw[e];exact ta
  ·rw[if_neg fa]
   exact ta
 rcases mb (65<=n/\n<=70)with d|d
 ·have a:wd n=n - 55:=by unfold wd;rw[if_neg b,if_pos d]
  rw[a];by_cases fa:n - 55<base
  ·rw[if_pos fa]
   have e:((n - 55:Nat):Int)=(n:Int) - 65+10:=aa
   rw[e];exact ta
  ·rw[if_neg fa]
   exact ta
 rcases mb (97<=n/\n<=102)with g|g
 ·have a:wd n=n - 87:=by unfold wd;rw[if_neg b,if_neg d,if_pos g]
  rw[a];by_cases fa:n - 87<base
  ·rw[if_pos fa]
   have e:((n - 87:Nat):Int)=(n:Int) - 97+10:=aa
   rw[e];exact ta
  ·rw[if_neg fa]
   exact ta
 ·have a:wd n=99:=by unfold wd;rw[if_neg b,if_neg d,if_neg g]
  rw[a,if_neg aa];simp(maxSteps:=999999) (disch:=first|assumption|omega) only[go_sem,simprocAttr,au,h]
  repeat' (split<;>simp(maxSteps:=999999) (disch:=first|assumption|omega) only[go_sem,simprocAttr,au,h])
def Fh(s:ba)(base most:Nat)(q:Nat×Nat):(Nat×Nat) ⊕ Option (Option (Nat×Nat)):=match s[q.2]? with
 |none=>.inr none
 |some c=>if most<q.2 then .inr none else if c.toNat=59/\0<q.2 then .inr (some (some (q.1,q.2+1)))else if wd c.toNat<base then .inl (q.1* base+wd c.toNat,q.2+1)else .inr (some none)
def Zl(base most:Nat)(s:ba):Option (Nat×Nat):=if 0<(zd base most 0 s).2/\s[(zd base most 0 s).2]?=some 59 then some ((zd base most 0 s).1,(zd base most 0 s).2+1)else none
theorem yT(s)(base most)(o:base<=16):∀(f n i),s.length - i<f->i<=most+1->(Ob (Fh s base most) none f (n,i)).join=if i<=most then(if 0<i+(zd base (most - i) n (s.drop i)).2/\s[i+(zd base (most - i) n (s.drop i)).2]?=some 59 then some ((zd base (most - i) n (s.drop i)).1,i+(zd base (most - i) n (s.drop i)).2+1)else none)else none
 |0,n,i,h,_=>by omega
 |f+1,n,i,h,q=>by
  by_cases l:i<s.length
  ·have g:=Qd l
   have d:=qe l;by_cases e:i<=most
   ·rw[if_pos e]
    have k:¬most<i:=aa
    by_cases b:s[i].toNat=59
    ·have j:¬wd s[i].toNat<base:=by rw[b];have:wd 59=99:=rfl;omega
     have a:zd base (most - i) n (s.drop i)=(n,0):=by
      rw[g];cases most - i with
      |zero=>rfl
      |succ m=>grind [zd]
     have c:s[i]=59:=Yb.1 b;rw[a];simp only[ci,d,c];by_cases p:0<i
     ·rw[hd (show Fh s base most (n,i)=.inr (some (some (n,i+1))) by grind [Fh])]
      grind
     ·rw[hd (show Fh s base most (n,i)=.inr (some none) by unfold Fh;rw[d];grind)]
      grind
    ·by_cases j:wd s[i].toNat<base
     ·rw[hf (show Fh s base most (n,i)=.inl (n* base+wd s[i].toNat,i+1) by grind [Fh]),yT s base most o f _ _ aa aa]
      by_cases c:i=most
      ·subst c
       rw[if_neg aa,Nat.sub_self];simp only[zd,ci,d,Pb];rw[if_neg (fun h=>b dh)]
      ·rw[if_pos aa,g]
       obtain⟨m,p⟩:∃m,most - i=m+1:=⟨most - i - 1,aa⟩
       grind [zd]
     ·rw[hd (show Fh s base most (n,i)=.inr (some none) by grind [Fh])]
      have a:zd base (most - i) n (s.drop i)=(n,0):=by
       rw[g];cases most - i with
       |zero=>rfl
       |succ m=>grind [zd]
      rw[a];simp only[ci,d,Pb,Option.join_some];rw[if_neg (fun h=>b dh)]
   ·rw[if_neg e,hd (show Fh s base most (n,i)=.inr none by grind [Fh])]
    rfl
  ·have d:s[i]?=none:=Qf aa
   rw[hd (show Fh s base most (n,i)=.inr none by grind [Fh]),Jj aa]
   grind
theorem zaD(s)(base most:Nat)(hs:s.length<=1000000000)(z:base=16\/base=10)(A:most<=7):da code lib 286 [.flat (.string (S s)),.flat (.int .i64 (base:Nat)),.flat (.int .i64 (most:Nat))] [] []=
 some ([.flat (.int .i64 (((Zl base most s).map (·.1)).getD 0:Nat)),.flat (.int .i64 (((Zl base most s).map (·.2)).getD 0:Nat))],false,[],[]):=by
 have b:=jt (body:=oa (da code lib) ia qC) (live:=[0,1,2,8,9]) (nb:=0) (fun q:Nat×Nat=>(⟨[(0,.flat (.string (S s))),(1,.flat (.int .i64 (base:Nat))),(2,.flat (.int .i64 (most:Nat))),(8,.flat (.int .i64 (q.1:Nat))),(9,.flat (.int .i64 (q.2:Nat)))],[],[],[]⟩:St))
  (Fh s base most) none (fun q=>match q with
    |none=>(.exit 0,⟨[],[],[],[]⟩)
    |some none=>(.ret,⟨[(6,.flat (.int .i64 0)),(7,.flat (.int .i64 0))],[],[],[]⟩)
    |some (some x)=>(.ret,⟨[(6,.flat (.int .i64 (x.1:Nat))),(7,.flat (.int .i64 (x.2:Nat)))],[],[],[]⟩)) (fun q=>q.2<=s.length/\q.2<=most+1/\q.1+1<=16^q.2) (fun q=>s.length - q.2) (fun⟨n,i⟩ p=>?_) (fun⟨n,i⟩ p=>?_) (fun⟨n,i⟩ c p h=>?_) (fun q=>by grind) (n:=s.length+1) (0,0) ⟨Ab _,aa,ea⟩ aa (by grind [ia])
 ·have a:=yT s base most aa (s.length+1) 0 0 aa aa
  rw[if_pos (Ab _)]at a;simp only[Zc,Nat.sub_zero,zf]at a;have d:(Ob (Fh s base most) none (s.length+1) (0,0)).join=Zl base most s:=a;rw[<-d];obtain⟨x,e⟩:∃x,Ob (Fh s base most) none (s.length+1) (0,0)=x:=⟨_,rfl⟩;rw[e]at b⊢;refine ja q0 (qa rfl) ?_;simp only[n0]at b;rcases x with _|_|x
  ·simp only[Option.join_none,aj,Option.getD_none,n0]
   exact ta
  ·simp only[Option.join_some,aj,Option.getD_none,n0]
   exact ta
  ·simp only[Option.join_some,jd,Option.getD_some]
   exact ta
 ·obtain⟨r,t,u⟩:=p
  dsimp only at r t u⊢;have y:16^i<=4294967296:=Vf (Yr aa (show i<=8 by omega)) ha;have o:base<=16:=aa
  unfold Fh;dsimp only;by_cases w:i<s.length
  ·have j:s[i]?=some s[i]:=qe w
   obtain⟨c,v⟩:∃c,s[i]=c:=⟨_,rfl⟩;rw[v]at j;have a:=A2 (lib:=lib) c base o;simp only[j];by_cases k:most<i
   ·rw[if_pos k]
    simp only[pe];exact ua ut
   ·rw[if_neg k]
    by_cases d:c.toNat=59
    ·by_cases e:0<i
     ·rw[if_pos ⟨d,e⟩]
      simp only[pe];exact ua ut
     ·rw[if_neg (fun h=>e h.2)]
      have g:wd c.toNat=99:=by rw[d];rfl
      rw[if_neg aa]at a⊢;simp only[pe];simp(maxSteps:=999999) (disch:=first|assumption|omega) only[go_sem,simprocAttr,au,ut,j,a]
    ·rw[if_neg (fun h=>d h.1)]
     by_cases e:wd c.toNat<base
     ·rw[if_pos e]at a⊢
      simp only[pe];obtain⟨l,g⟩:∃l,wd c.toNat=l:=⟨_,rfl⟩;rw[g]at a e⊢;have B:IntKind.i64.wrap ((n:Int)* (base:Int))=((n* base:Nat):Int):=by rw[wrap64 la];rfl
      have C:IntKind.i64.wrap (((n* base:Nat):Int)+(l:Int))=((n* base:Nat):Int)+(l:Int):=by rw[wrap64 la]
      exact ua ut
     ·rw[if_neg e]at a⊢
      simp only[pe];exact ua ut
  ·have j:s[i]?=none:=Qf aa
   simp only[j,pe];exact ua ut
 ·exact ta
 grind [Fh,Nat.pow_succ]
theorem zaw(base):∀(m n)(s),(zd base m n s).2=0->(zd base m n s).1=n
 |0,n,s,_=>rfl
 |m+1,n,[],_=>rfl
 |m+1,n,c::t,h=>by
  grind [zd]
theorem DT(base most)(s):Yl base most s=match Zl base most s with
 |none=>none
 |some (n,k)=>if n≠0/\Sb n=true then some (Ka n,k)else none:=by
 grind [zaw,Yl,Zl]
def FT{base most}{s}{q}(h:Zl base most s=some q):1<=q.2/\q.2<=most+1:=by
 grind [xH,Zl]
theorem zaT(s)(k:Nat)(hs:s.length<=1000000000)(H:k<=s.length):da code lib 257 [.flat (.string (S s)),.flat (.int .i64 (k:Nat))] [] []=match fo (s.drop k)with
 |some (x,c)=>some ([.flat (.string (S x)),.flat (.int .i64 (c:Nat)),.flat (.bool true)],false,[],[])
 |none=>some ([.flat (.string (S [])),.flat (.int .i64 0),.flat (.bool false)],false,[],[]):=by
 have l:∀w:ba,w.length<=10->da code lib 105 [.flat (.string (S s)),.flat (.string (S w)),.flat (.int .i64 (k:Nat))] [] []=some ([.flat (.bool (w.isPrefixOf (s.drop k)))],false,[],[]):=fun w J=>by
  rw[<-fj H];exact So s w k hs aa aa
 have b1:=l [38,97,109,112,59] ha;have a:=l [38,108,116,59] ha;have A:=l [38,103,116,59] ha;have B:=l [38,113,117,111,116,59] ha;have C:=l [38,35,120] ha;have h:=l [38,35] ha;have K:(⟨#[]⟩:ByteArray)=S []:=rfl;unfold fo;cases D:([38,97,109,112,59]:ba).isPrefixOf (s.drop k)with
 |true=>
  rw[D]at b1;rw[if_pos rfl];refine ja Rj (qa rfl) ?_;exact Cp @b1 @lc @Bb @Mb @Zb @Wc kk
 |false=>
 rw[D]at b1;rw[if_neg ea];cases E:([38,108,116,59]:ba).isPrefixOf (s.drop k)with
 |true=>
  rw[E]at a;rw[if_pos rfl];refine ja Rj (qa rfl) ?_;exact ir @b1 @a @lc @Bb @Mb @Zb @Wc kk
 |false=>
 rw[E]at a;rw[if_neg ea];cases F:([38,103,116,59]:ba).isPrefixOf (s.drop k)with
 |true=>
  rw[F]at A;rw[if_pos rfl];refine ja Rj (qa rfl) ?_;exact ir @b1 @a @lc @Bb @Mb @Zb @Wc kk
 |false=>
 rw[F]at A;rw[if_neg ea];cases G:([38,113,117,111,116,59]:ba).isPrefixOf (s.drop k)with
 |true=>
  rw[G]at B;rw[if_pos rfl];refine ja Rj (qa rfl) ?_;exact ir @b1 @a @lc @Bb @Mb @Zb @Wc kk
 |false=>
 rw[G]at B;rw[if_neg ea]
 have e:∀(p m g:Nat)(w:ba),(p=16/\m=6/\g=3/\w=[38,35,120])\/(p=10/\m=7/\g=2/\w=[38,35])->w.isPrefixOf (s.drop k)=true->k+g<=s.length/\da code lib 286 [.flat (.string (S (s.drop (k+g)))),.flat (.int .i64 (p:Nat)),.flat (.int .i64 (m:Nat))] [] []=
  some ([.flat (.int .i64 (((Zl p m (s.drop (k+g))).map (·.1)).getD 0:Nat)),.flat (.int .i64 (((Zl p m (s.drop (k+g))).map (·.2)).getD 0:Nat))],false,[],[]):=fun p m g w J I=>by
   have:=Lr H I;refine⟨la,zaD _ _ _ la aa aa⟩
 cases t:([38,35,120]:ba).isPrefixOf (s.drop k)with
 |true=>
  rw[t]at C;rw[if_pos rfl];obtain⟨z,b⟩:=e 16 6 3 _ (.inl ⟨rfl,rfl,rfl,rfl⟩) t;have i:((16:Nat):Int)=16:=rfl;have e6:((6:Nat):Int)=6:=rfl;rw[i,e6]at b;rw[Cd,DT];cases j:Zl 16 6 (s.drop (k+3))with
  |none=>
   rw[j]at b;simp only[aj,Option.getD_none,n0]at b⊢;refine ja Rj (qa rfl) ?_;exact ir @b1 @a @lc @Bb @Mb @Zb @Wc kk
  |some q=>
   obtain⟨n,c⟩:=q;rw[j]at b;have y:=FT j;dsimp only at y;have d:=Bw (lib:=lib) n;have v:=Gn (lib:=lib) n;simp only[jd,Option.getD_some]at b⊢;by_cases r:n=0
   ·subst r
    simp only[ne_eq,not_true_eq_false,false_and,if_false,aj,n0]at b⊢;refine ja Rj (qa rfl) ?_;exact ir @b1 @a @lc @Bb @Mb @Zb @Wc kk
   ·cases o:Sb n with
    |false=>
     rw[o]at d;simp only[Ha,and_false,if_false,aj];refine ja Rj (qa rfl) ?_;exact ir @b1 @a @lc @Bb @Mb @Zb @Wc kk
    |true=>
     rw[o]at d;simp only[ne_eq,r,not_false_eq_true,and_self,if_true,jd];refine ja Rj (qa rfl) ?_;have e3:((3:Nat):Int)=3:=rfl;exact ir @b1 @a @lc @Bb @Mb @Zb @Wc kk
 |false=>
 rw[t]at C;rw[if_neg ea];cases u:([38,35]:ba).isPrefixOf (s.drop k)with
 |true=>
  rw[u]at h;rw[if_pos rfl];obtain⟨z,b⟩:=e 10 7 2 _ (.inr ⟨rfl,rfl,rfl,rfl⟩) u;have i:((10:Nat):Int)=10:=rfl;have e6:((7:Nat):Int)=7:=rfl;rw[i,e6]at b;rw[Cd,DT];cases j:Zl 10 7 (s.drop (k+2))with
  |none=>
   rw[j]at b;simp only[aj,Option.getD_none,n0]at b⊢;refine ja Rj (qa rfl) ?_;exact Ys @b1 @a @h @lc @Bb @Mb @Zb @Wc kk
  |some q=>
   obtain⟨n,c⟩:=q;rw[j]at b;have y:=FT j;dsimp only at y;have d:=Bw (lib:=lib) n;have v:=Gn (lib:=lib) n;simp only[jd,Option.getD_some]at b⊢;by_cases r:n=0
   ·subst r
    simp only[ne_eq,not_true_eq_false,false_and,if_false,aj,n0]at b⊢;refine ja Rj (qa rfl) ?_;exact Ys @b1 @a @h @lc @Bb @Mb @Zb @Wc kk
   ·cases o:Sb n with
    |false=>
     rw[o]at d;simp only[Ha,and_false,if_false,aj];refine ja Rj (qa rfl) ?_;exact Ys @b1 @a @h @lc @Bb @Mb @Zb @Wc kk
    |true=>
     rw[o]at d;simp only[ne_eq,r,not_false_eq_true,and_self,if_true,jd];refine ja Rj (qa rfl) ?_;have e3:((2:Nat):Int)=2:=rfl;exact Ys @b1 @a @h @lc @Bb @Mb @Zb @Wc kk
 |false=>
 rw[u]at h;rw[if_neg ea];refine ja Rj (qa rfl) ?_;exact Ys @b1 @a @h @lc @Bb @Mb @Zb @Wc kk
def OE(L)(s)(i:L.length<=1000000):da code lib 198 [.ga L.length (va L),.flat (.string (S s))] [] []=some ([.flat (.bool (L.contains s))],false,[],[]):=by
 have a:=fk (body:=oa (da code lib) ia HC) (live:=[0,1,5]) (nb:=0) (fun(_:Unit) k=>⟨[(0,.ga L.length (va L)),(1,.flat (.string (S s))),(5,.flat (.int .i64 (k:Nat)))],[],[],[]⟩) L (fun _ _=>True)
  (fun _ k x=>if x=s then .inr (.ret,⟨[(4,.flat (.bool true))],[],[],[]⟩)else .inl ()) (fun _=>(.exit 0,⟨[],[],[],[]⟩)) (fun _ k x _ c e b=>?_) (fun _ _=>by simp only[go_sem,simprocAttr]) (fun _ _ _ _ _ _ _ _=>trivial) (fun _ _ x r h=>by split at h<;>simp at h;rw[<-h];simp) (fun _ _=>?_) (fun _=>by simp) () trivial Im
 ·simp only[n0]at a
  rcases BJ (s:=s) (fin:=fun _=>(.exit 0,⟨[],[],[],[]⟩)) (g:=fun _=>(.ret,⟨[(4,.flat (.bool true))],[],[],[]⟩)) L 0 with⟨b,c⟩|⟨b,j,c,d⟩
  ·rw[c]at a
   rw[b];refine ja JO (qa rfl) ?_;exact ua @dd
  ·rw[d]at a
   rw[b];refine ja JO (qa rfl) ?_;exact ua @dd
 ·have b:(va L)[k]?=some (.flat (.string (S x))):=by simp only[va,jx,e,jd]
  have d:(va L).drop k=.flat (.string (S x))::(va L).drop (k+1):=by
   rw[Qd la];rw[qe la,Pb]at b;rw[b]
  by_cases h:x=s
  ·have c:=eq_true h
   rw[if_pos h];exact Kb QH @dd
  ·have c:=eq_false h
   rw[if_neg h];exact Kb QH @dd
 ·exact Kb QH @dd
def fT:da code lib 199 [] [] []=some ([.ga sg.length (va sg)],true,[],[]):=by
 refine ja J0 (qa rfl) ?_;simp only[va,sg,Xb,Fe];simp only[go_sem,simprocAttr,ff]
def LX:da code lib 259 [] [] []=some ([.ga Hl.length (va Hl)],true,[],[]):=by
 refine ja H0 (qa rfl) ?_;simp only[va,Hl,Xb,Fe];simp only[go_sem,simprocAttr,ff]
def KW(s):da code lib 127 [.flat (.string (S s))] [] []=some ([.flat (.bool (Yi s))],false,[],[]):=by
 refine ja G0 (qa rfl) ?_;unfold Yi;rcases mb (s=[98,114])with a|a<;>rcases mb (s=[104,114])with b|b<;>rcases mb (s=[105,109,103])with c|c
 all_goals
  first|have d:=eq_false a|have d:=eq_true a
  first|have e:=eq_false b|have e:=eq_true b
  first|have g:=eq_false c|have g:=eq_true c
  clear a b c;exact ta
def HJ(s)(k:Nat)(hs:s.length<=1000000000)(e:k<=s.length):da code lib 197 [.flat (.string (S s)),.flat (.int .i64 (k:Nat))] [] []=some ([.flat (.string (S (zb s k)))],false,[],[]):=by
 have a:=jt (body:=oa (da code lib) ia JC) (live:=[0,1,5]) (nb:=0) (fun j:Nat=>(⟨[(0,.flat (.string (S s))),(1,.flat (.int .i64 (j:Nat))),(5,.flat (.int .i64 (k:Nat)))],[],[],[]⟩:St))
  (Xg s Vk) 0 (fun j=>(.exit 0,⟨[(0,.flat (.string (S s))),(1,.flat (.int .i64 (j:Nat))),(5,.flat (.int .i64 (k:Nat)))],[],[],[]⟩)) (fun j=>j<=s.length) (fun j=>s.length - j) (fun j b=>?_) (fun j b=>?_) (fun j i b h=>?_) (fun j=>by simp) (n:=s.length+1) k e aa (by grind [ia])
 ·rw[bB s Vk _ k aa e]at a
  have d:=zn e;unfold zb at d⊢;obtain⟨n,b⟩:∃n,k+((s.drop k).takeWhile Vk).length=n:=⟨_,rfl⟩;have l:(s.take n).drop k=(s.drop k).takeWhile Vk:=by
   rw[<-b,ds,yi];exact(List.prefix_iff_eq_take.1 (ox Vk)).symm
  rw[b]at a d;have g:k<=n:=aa
  refine ja K0 (qa rfl) ?_;exact ta
 ·by_cases fa:j<s.length
  ·have b:s[j]?=some s[j]:=qe fa
   obtain⟨c,l⟩:∃c,s[j]=c:=⟨_,rfl⟩;rw[l]at b;simp only[Xg,b];unfold Vk;obtain⟨n,d⟩:∃n,c.toNat=n:=⟨_,rfl⟩;rw[d];rcases mb (97<=n)with g|g<;>rcases mb (n<=122)with a2|a2<;>rcases mb (48<=n)with a3|a3<;>rcases mb (n<=57)with a4|a4
   all_goals first|(exfalso;omega)|skip
   all_goals
    simp(maxSteps:=999999) (disch:=first|assumption|omega) only[go_sem,simprocAttr,au,bU,b,d,pe]
  ·have b:s[j]?=none:=Qf aa
   simp only[Xg,b,pe];exact ua bU
 ·exact ta
 grind [Xg]
def eY(s)(k:Nat)(hs:s.length<=1000000000)(l:k<=s.length):da code lib 258 [.flat (.string (S s)),.flat (.int .i64 (k:Nat))] [] []=some ([.flat (.int .i64 ((k+(Ah s k).length:Nat)))],false,[],[]):=by
 have a:=jt (body:=oa (da code lib) ia GC) (live:=[0,1]) (nb:=0) (fun j:Nat=>(⟨[(0,.flat (.string (S s))),(1,.flat (.int .i64 (j:Nat)))],[],[],[]⟩:St))
  (Xg s Uo) 0 (fun j=>(.exit 0,⟨[(1,.flat (.int .i64 (j:Nat)))],[],[],[]⟩)) (fun j=>j<=s.length) (fun j=>s.length - j) (fun j b=>?_) (fun j b=>?_) (fun j i b h=>?_) (fun j=>by simp) (n:=s.length+1) k l aa (by grind [ia])
 ·rw[bB s Uo _ k aa l]at a
  unfold Ah;obtain⟨n,b⟩:∃n,k+((s.drop k).takeWhile Uo).length=n:=⟨_,rfl⟩;rw[b]at a⊢;refine ja I0 (qa rfl) ?_;exact ta
 ·by_cases fa:j<s.length
  ·have b:=qe fa
   obtain⟨c,p⟩:∃c,s[j]=c:=⟨_,rfl⟩;rw[p]at b;simp only[Xg,b];unfold Uo;obtain⟨n,o⟩:∃n,c.toNat=n:=⟨_,rfl⟩;rw[o];rcases mb (n=32)with d|d<;>rcases mb (n=9)with a2|a2<;>rcases mb (n=10)with a3|a3
   all_goals first|(exfalso;omega)|skip
   all_goals
    first|have b1:=eq_false d|have b1:=eq_true d
    first|have e:=eq_false a2|have e:=eq_true a2
    first|have g:=eq_false a3|have g:=eq_true a3
    simp(maxSteps:=999999) (disch:=first|assumption|omega) only[go_sem,simprocAttr,au,aU,b,o,b1,e,g,pe]
  ·have b:s[j]?=none:=Qf aa
   simp only[Xg,b,pe];exact ua aU
 ·exact ta
 grind [Xg]
theorem pV(s)(en bd)(k:Nat)(hs:s.length<=100000000)(C:k<=s.length):da code lib 195 [.flat (.string (S s)),.flat (.int .i64 (k:Nat)),.flat (.int .u8 en.toNat),.flat (.int .u8 bd.toNat)] [] []=match Si s en bd k with
 |some (x,p)=>some ([.flat (.string (S x)),.flat (.int .i64 (p:Nat)),.flat (.bool true)],false,[],[])
 |none=>some ([.flat (.string (S [])),.flat (.int .i64 0),.flat (.bool false)],false,[],[]):=by
 have z:(⟨#[]⟩:ByteArray)=S []:=rfl
 have b:=jt (body:=oa (da code lib) ia IC) (live:=[0,1,2,3,11]) (nb:=0) (fun q:ba×Nat=>(⟨[(0,.flat (.string (S s))),(1,.flat (.int .i64 (q.2:Nat))),(2,.flat (.int .u8 en.toNat)),(3,.flat (.int .u8 bd.toNat)),(11,.flat (.string (S q.1)))],[],[],[]⟩:St))
  (Fj s en bd) none (fun q=>match q with
    |some x=>(.exit 0,⟨[(1,.flat (.int .i64 (x.2:Nat))),(11,.flat (.string (S x.1)))],[],[],[]⟩)
    |none=>(.ret,⟨[(8,.flat (.string (S []))),(9,.flat (.int .i64 0)),(10,.flat (.bool false))],[],[],[]⟩)) (fun a=>a.2<=s.length/\k<=a.2/\a.1.length<=4* (a.2 - k)) (fun a=>s.length - a.2) (fun⟨out,j⟩ u=>?_) (fun⟨out,j⟩ u=>?_) (fun a c u h=>OI k a c u h) (fun q=>by grind) (n:=s.length+1) ([],k) ⟨C,Aa _,ea⟩ aa (by grind [ia])
 ·have d:Ob (Fj s en bd) none (s.length+1) ([],k)=Si s en bd k:=rfl
  rw[d]at b;cases o:Si s en bd k with
  |none=>
   rw[o]at b;dsimp only at b⊢;refine ja KO (qa rfl) ?_;exact ta
  |some q=>
   rw[o]at b;dsimp only at b⊢;refine ja KO (qa rfl) ?_;exact ta
 ·dsimp only at u⊢
  by_cases g:j<s.length
  ·have l:s[j]?=some s[j]:=qe g
   obtain⟨c,A⟩:∃c,s[j]=c:=⟨_,rfl⟩;rw[A]at l;unfold Fj;simp only[l];by_cases v:c=en
   ·have d:=eq_true (congrArg UInt8.toNat v)
    rw[if_pos v];simp only[pe];exact ua vt
   ·have d:=eq_false fun h=>v (Yb.1 h)
    rw[if_neg v];by_cases w:c=bd
    ·have e:=eq_true (congrArg UInt8.toNat w)
     rw[if_pos w];simp only[pe];simp(maxSteps:=999999) (disch:=first|assumption|omega) only[go_sem,simprocAttr,au,z,vt,l,d,e]
    ·have e:=eq_false fun h=>w (Yb.1 h)
     rw[if_neg w];by_cases y:c=38
     ·have i:(c.toNat=38)=True:=eq_true dh
      rw[if_pos y];have r:=zaT (lib:=lib) s j aa u.1;cases o:fo (s.drop j)with
      |none=>
       rw[o]at r;simp only[pe]at r⊢;simp(maxSteps:=999999) (disch:=first|assumption|omega) only[go_sem,simprocAttr,au,z,vt,l,d,e,i,r]
      |some q=>
       obtain⟨x,n⟩:=q;rw[o]at r;have B:=bI o;rw[fc]at B;dsimp only at B;have t:out.length+x.length<=za:=Ie
       simp only[pe]at r⊢;simp(maxSteps:=999999) (disch:=first|assumption|omega) only[go_sem,simprocAttr,au,z,vt,l,d,e,i,r,t]
     ·have i:(c.toNat=38)=False:=eq_false fun h=>y (Yb.1 h)
      rw[if_neg y];have r:=Qd g;have B:(s.take (j+1)).drop j=[c]:=by
       rw[ds,r,A,yi];rfl
      have t:out.length+1<=za:=Ie
      simp only[pe];exact ua vt
  ·have l:s[j]?=none:=Qf aa
   unfold Fj;simp only[l,pe];exact ua vt
 ·exact ta
def bR(l:List Qh)(w:ba)(k to:Nat):List PV:=wa ⟨111,w,[],l,k,to⟩
def j3(s w)(k d)(a)(l)(t:l.length<=1000000000)(X:List PV):
 Cc (oa (da code lib) ia cy) [0,4,6,7,8,9] 3 ia ⟨[(0,.flat (.string (S s))),(4,.ptr 0 0),(6,.ptr 1 0),(7,.flat (.int .i64 (d:Nat))),(8,.ptr 2 0),(9,.flat (.int .i64 0))],[.cell 1 3,.cell 0 3],[],[(135,wa Z0),(135,bR l w k 0),(137,fb a)]⟩=
 some (if l.any (fun c=>decide (c.name=a.name))then(.ret,⟨[(4,.ptr 0 0),(5,.flat (.bool false))],[.cell 1 3],[],[(135,bR l w k 0),(135,bR l w k 0),(137,fb a)]⟩)
  else(.exit 2,⟨[(0,.flat (.string (S s))),(4,.ptr 0 0),(6,.ptr 1 0),(7,.flat (.int .i64 (d:Nat))),(8,.ptr 2 0)],[.cell 1 3,.cell 0 3],[],[(135,wa Z0),(135,bR l w k 0),(137,fb a)]⟩)):=by
 have b:=fk (body:=oa (da code lib) ia cy) (live:=[0,4,6,7,8,9]) (nb:=3) (fun(_:Unit) i=>⟨[(0,.flat (.string (S s))),(4,.ptr 0 0),(6,.ptr 1 0),(7,.flat (.int .i64 (d:Nat))),(8,.ptr 2 0),(9,.flat (.int .i64 (i:Nat)))],[.cell 1 3,.cell 0 3],[],[(135,wa Z0),(135,bR l w k 0),(137,fb a)]⟩) l (fun _ _=>True)
  (fun _ i x=>if decide (x.name=a.name)then .inr (.ret,⟨[(4,.ptr 0 0),(5,.flat (.bool false))],[.cell 1 3],[],[(135,bR l w k 0),(135,bR l w k 0),(137,fb a)]⟩)else .inl ()) (fun _=>(.exit 2,⟨[(0,.flat (.string (S s))),(4,.ptr 0 0),(6,.ptr 1 0),(7,.flat (.int .i64 (d:Nat))),(8,.ptr 2 0)],[.cell 1 3,.cell 0 3],[],[(135,wa Z0),(135,bR l w k 0),(137,fb a)]⟩)) (fun _ i x _ j q e=>?_) (fun _ _=>by simp only[go_sem,simprocAttr]) (fun _ _ _ _ _ _ _ _=>trivial) (fun _ _ x r h=>by split at h<;>simp at h;rw[<-h];simp) (fun _ _=>?_) (fun _=>by simp) () trivial Im
 ·simp only[n0]at b
  rw[b];rcases AJ (p:=fun x=>decide (x.name=a.name)) (fin:=fun _=>(.exit 2,⟨[(0,.flat (.string (S s))),(4,.ptr 0 0),(6,.ptr 1 0),(7,.flat (.int .i64 (d:Nat))),(8,.ptr 2 0)],[.cell 1 3,.cell 0 3],[],[(135,wa Z0),(135,bR l w k 0),(137,fb a)]⟩)) (g:=fun _=>(.ret,⟨[(4,.ptr 0 0),(5,.flat (.bool false))],[.cell 1 3],[],[(135,bR l w k 0),(135,bR l w k 0),(137,fb a)]⟩)) l 0 with⟨e,n⟩|⟨e,j,n,o⟩
  ·rw[n,e];rfl
  ·rw[o,e];rfl
 ·have j:=RB q
  simp only[fb,Fa,Ma]at j⊢;simp only[bR,wa];have n:wa Z0=[.flat (.int .u8 0),.flat (.string (S [])),.flat (.string (S [])),.ga 0 [],.flat (.int .i64 0),.flat (.int .i64 0)]:=rfl;by_cases h:x.name=a.name
  ·have e:=eq_true h
   simp only[e,decide_true,if_true];exact ye RH @Zf @Ld
  ·have e:=eq_false h
   simp only[e,decide_false,Ha,if_false];exact ye RH @Zf @Ld
 ·simp only[bR,wa,fb]
  exact ua RH
def za1{s}{l}{k}(a:(Ah s k).length=0)(b:Ub s [62] (k+(Ah s k).length)=false):Kf s (l,k)=.inr none:=by
 grind [Kf]
theorem za6(s w)(hs:s.length<=100000000)(fr)(l)(k)(U:k<=s.length)(hlZ:l.length<=k):
 match Kf s (l,k)with
 | .inl c=>oa (da code lib) ia ss ⟨[(0,.flat (.string (S s))),(1,.flat (.int .i64 (k:Nat))),(4,.ptr 0 0),(6,.ptr 1 0)],[.cell 1 3,.cell 0 3],[],[(135,wa Z0),(135,bR l w fr 0)]⟩=some (.normal,⟨[(0,.flat (.string (S s))),(1,.flat (.int .i64 (c.2:Nat))),(4,.ptr 0 0),(6,.ptr 1 0)],[.cell 1 3,.cell 0 3],[],[(135,wa Z0),(135,bR c.1 w fr 0)]⟩)
 | .inr (some c)=>oa (da code lib) ia ss ⟨[(0,.flat (.string (S s))),(1,.flat (.int .i64 (k:Nat))),(4,.ptr 0 0),(6,.ptr 1 0)],[.cell 1 3,.cell 0 3],[],[(135,wa Z0),(135,bR l w fr 0)]⟩=some (.ret,⟨[(4,.ptr 0 0),(5,.flat (.bool true))],[.cell 1 3],[],[(135,bR c.1 w fr c.2),(135,bR c.1 w fr c.2)]⟩)
 | .inr none=>∃t ys,oa (da code lib) ia ss ⟨[(0,.flat (.string (S s))),(1,.flat (.int .i64 (k:Nat))),(4,.ptr 0 0),(6,.ptr 1 0)],[.cell 1 3,.cell 0 3],[],[(135,wa Z0),(135,bR l w fr 0)]⟩=some (.ret,⟨[(4,.ptr 0 0),(5,.flat (.bool false))],[.cell 1 3],[],(135,wa t)::ys⟩):=by
 have hzZ:(⟨#[]⟩:ByteArray)=S []:=rfl;have X:wa Z0=[.flat (.int .u8 0),.flat (.string (S [])),.flat (.string (S [])),.ga 0 [],.flat (.int .i64 0),.flat (.int .i64 0)]:=rfl;have d:((UInt8.toNat 111:Nat):Int)=111:=rfl;have I:((UInt8.toNat 34:Nat):Int)=34:=rfl;have J:((UInt8.toNat 60:Nat):Int)=60:=rfl;have o:=wv U;have R:=eY (lib:=lib) s k aa U;have z:=@za1 s l k
 have i:Kf s (l,k)=(if Ub s [62] (k+(Ah s k).length)then .inr (some (l,k+(Ah s k).length+1))
  else match Cm s (k+(Ah s k).length)with
  |none=>.inr none
  |some (a,e)=>if(Ah s k).length=0\/(l.any fun b=>decide (b.name=a.name))=true then .inr none else .inl (l++[a],e)):=rfl
 obtain⟨g,hgZ⟩:∃g,Ah s k=g:=⟨_,rfl⟩;rw[hgZ]at R o z i;obtain⟨j,O⟩:∃j,k+g.length=j:=⟨_,rfl⟩;rw[O]at R o z i;have T:=So (lib:=lib) s [62] j aa ha aa;have r:=zn o;have Y:=HJ (lib:=lib) s j aa o;have L:=OE (lib:=lib) Hl (zb s j) ha;have hat:=LX (lib:=lib);have n:=So (lib:=lib) s [61,34] (j+(zb s j).length) aa ha aa;unfold Cm at i;obtain⟨x,hxZ⟩:∃x,zb s j=x:=⟨_,rfl⟩;rw[hxZ]at Y L n r i;obtain⟨B,P⟩:∃B,j+x.length=B:=⟨_,rfl⟩;rw[P]at n r i;have V:(j:Int)+(x.length:Int)=(B:Nat):=aa
 simp only[bR,wa,n0,d];cases H:Ub s [62] j with
 |true=>
  rw[H]at T i;simp only[if_true]at i;rw[i];dsimp only;exact ye gn @Zf @Ld
 |false=>
  rw[H]at T;by_cases D:g.length=0
  ·have N:=eq_true aa
   rw[z D H];dsimp only;refine⟨⟨111,w,[],l,fr,0⟩,[(135,wa ⟨111,w,[],l,fr,0⟩),(137,fb ⟨x,[],0,0⟩)],?_⟩;simp only[wa,fb,d,n0];exact ye gn @Zf @Ld
  ·have N:(j=k)=False:=eq_false aa
   rw[H]at i;simp only[Ha,if_false,D,false_or]at i;rw[i];cases C:Hl.contains x with
   |false=>
    rw[C]at L;simp only[De,Ha,if_false];refine⟨⟨111,w,[],l,fr,0⟩,[(135,wa ⟨111,w,[],l,fr,0⟩),(137,fb ⟨x,[],0,0⟩)],?_⟩;simp only[wa,fb,d,n0];exact Lg gn @Pc @Zf @Ld
   |true=>
    rw[C]at L;simp only[pd];cases A:Ub s [61,34] B with
    |false=>
     rw[A]at n;simp only[Ha,if_false];refine⟨⟨111,w,[],l,fr,0⟩,[(135,wa ⟨111,w,[],l,fr,0⟩),(137,fb ⟨x,[],0,0⟩)],?_⟩;simp only[wa,fb,d,n0];exact Lg gn @Pc @Zf @Ld
    |true=>
     rw[A]at n;have F:=Lr r (by rw[<-fj r];exact A);simp only[sa,Ca,Zc,Nat.reduceAdd]at F;simp only[if_true];obtain⟨u,Q⟩:∃u,B+2=u:=⟨_,rfl⟩;rw[Q]at F⊢;have W:(B:Int)+2=(u:Nat):=aa
     have G:=pV (lib:=lib) s 34 60 u hs F;rw[I,J]at G;have y:=j3 (lib:=lib) s w fr j ⟨x,[],0,0⟩ l aa [];simp only[bR,wa,fb,d,n0]at y;cases K:Si s 34 60 u with
     |none=>
      rw[K]at G;cases h:l.any (fun c=>decide (c.name=x))with
      |true=>
       simp only[h,if_true]at y;refine⟨⟨111,w,[],l,fr,0⟩,[(135,wa ⟨111,w,[],l,fr,0⟩),(137,fb ⟨x,[],0,0⟩)],?_⟩;simp only[wa,fb,d,n0];exact Lg gn @Pc @Zf @Ld
      |false=>
       simp only[h,Ha,if_false]at y;refine⟨⟨111,w,[],l,fr,0⟩,[(135,wa ⟨111,w,[],l,fr,0⟩),(137,fb ⟨x,[],u,0⟩)],?_⟩;simp only[wa,fb,d,n0];exact Lg gn @Pc @Zf @Ld
     |some q=>
      obtain⟨v,p⟩:=q;rw[K]at G;have M:=Lt F K;dsimp only at G M⊢;by_cases E:p<s.length
      ·simp only[E,if_true]
       cases h:l.any (fun c=>decide (c.name=x))with
       |true=>
        simp only[h,if_true]at y⊢;refine⟨⟨111,w,[],l,fr,0⟩,[(135,wa ⟨111,w,[],l,fr,0⟩),(137,fb ⟨x,[],0,0⟩)],?_⟩;simp only[wa,fb,d,n0];exact Lg gn @Pc @Zf @Ld
       |false=>
        simp only[h,Ha,if_false]at y⊢;have Z:uc l++[PV.flat (.string (S x)),.flat (.string (S v)),.flat (.int .i64 (u:Nat)),.flat (.int .i64 (p:Nat))]=uc (l++[⟨x,v,u,p⟩]):=by rw[<-aK];rfl
        have hbd:l.length+1<=za:=Ie
        exact mj gn @Pc @Zf @Ld @Da.{0}
      ·simp only[E,if_false]
       cases h:l.any (fun c=>decide (c.name=x))with
       |true=>
        simp only[h,if_true]at y;refine⟨⟨111,w,[],l,fr,0⟩,[(135,wa ⟨111,w,[],l,fr,0⟩),(137,fb ⟨x,[],0,0⟩)],?_⟩;simp only[wa,fb,d,n0];exact Lg gn @Pc @Zf @Ld
       |false=>
        simp only[h,Ha,if_false]at y;refine⟨⟨111,w,[],l,fr,0⟩,[(135,wa ⟨111,w,[],l,fr,0⟩),(137,fb ⟨x,[],u,0⟩)],?_⟩;simp only[wa,fb,d,n0];exact Lg gn @Pc @Zf @Ld
theorem za5(s)(hs:s.length<=100000000)(fr)(z:fr+1<=s.length):
 match(if sg.contains (zb s (fr+1))then lk s (fr+1+(zb s (fr+1)).length)else none)with
 |some (l,p)=>da code lib 196 [.flat (.string (S s)),.flat (.int .i64 (fr:Nat))] [] []=some ([.agg (wa ⟨111,zb s (fr+1),[],l,fr,p⟩),.flat (.bool true)],false,[],[])
 |none=>∃t,da code lib 196 [.flat (.string (S s)),.flat (.int .i64 (fr:Nat))] [] []=some ([.agg (wa t),.flat (.bool false)],false,[],[]):=by
 have C:(⟨#[]⟩:ByteArray)=S []:=rfl;have u:wa Z0=[.flat (.int .u8 0),.flat (.string (S [])),.flat (.string (S [])),.ga 0 [],.flat (.int .i64 0),.flat (.int .i64 0)]:=rfl;have b:((UInt8.toNat 111:Nat):Int)=111:=rfl;have y:=HJ (lib:=lib) s (fr+1) aa z;have v:=OE (lib:=lib) sg (zb s (fr+1)) ha;have A:=fT (lib:=lib);have k:=zn z;simp only[Ee,wn]at y;obtain⟨w,B⟩:∃w,zb s (fr+1)=w:=⟨_,rfl⟩;rw[B]at y v k⊢;cases e:sg.contains w with
 |false=>
  rw[e]at v;simp only[Ha,if_false];refine⟨⟨111,w,[],[],fr,0⟩,?_⟩;simp only[wa,uc,mg,Ca,b,n0];refine ja ID (qa rfl) ?_;exact ua @Pc
 |true=>
  rw[e]at v;simp only[if_true]
  have hrel:=Sl (body:=oa (da code lib) ia ss) (live:=[0,1,4,6]) (nb:=2)
   (fun(_:Unit)(q:List Qh×Nat)=>(⟨[(0,.flat (.string (S s))),(1,.flat (.int .i64 (q.2:Nat))),(4,.ptr 0 0),(6,.ptr 1 0)],[.cell 1 3,.cell 0 3],[],[(135,wa Z0),(135,bR q.1 w fr 0)]⟩:St))
   (Kf s) none (fun a o st=>match a with
     |some c=>o=.ret/\st=⟨[(4,.ptr 0 0),(5,.flat (.bool true))],[.cell 1 3],[],[(135,bR c.1 w fr c.2),(135,bR c.1 w fr c.2)]⟩
     |none=>o=.ret/\∃t ys,st=⟨[(4,.ptr 0 0),(5,.flat (.bool false))],[.cell 1 3],[],(135,wa t)::ys⟩)
   (fun a=>a.2<=s.length/\a.1.length<=a.2) (fun a=>s.length - a.2) (fun _ ⟨l,j⟩ g=>?_) (fun _ ⟨l,j⟩ g=>?_) (fun a c g h=>vA a c g h) (n:=s.length+1) (m:=ia) () ([],fr+1+w.length) ⟨k,Ab _⟩ aa (by grind [ia])
  ·obtain⟨o,st,r,i⟩:=hrel
   have d:Ob (Kf s) none (s.length+1) ([],fr+1+w.length)=lk s (fr+1+w.length):=rfl;rw[d]at i;simp only[u,bR]at r;simp only[wa,b,n0,uc,mg,Ca,Ee,wn]at r;cases x:lk s (fr+1+w.length)with
   |some c=>
    rw[x]at i;obtain⟨rfl,rfl⟩:=i;dsimp only;refine ja ID (qa rfl) ?_;simp only[bR,wa,b]at r⊢;exact ye @Pc @Ld @zm
   |none=>
    rw[x]at i;obtain⟨rfl,t,ys,rfl⟩:=i;dsimp only;refine⟨t,?_⟩;refine ja ID (qa rfl) ?_;simp only[wa]at r⊢;exact ye @Pc @Ld @zm
  ·have:=za6 (lib:=lib) s w hs fr l j g.1 g.2
   cases d:Kf s (l,j)with
   |inl c=>rw[d]at this;exact⟨(),this⟩
   |inr c=>
    rw[d]at this;cases c with
    |none=>
     obtain⟨t,ys,i⟩:=this;exact⟨_,_,i,ea,rfl,t,ys,rfl⟩
    |some c=>exact⟨_,_,this,ea,rfl,rfl⟩
  ·exact ta
theorem zaU(s)(hs:s.length<=100000000)(k)(J:k<s.length):
 match rj s k with
 |some t=>da code lib 123 [.flat (.string (S s)),.flat (.int .i64 (k:Nat))] [] []=some ([.agg (wa t),.flat (.bool true)],false,[],[])
 |none=>∃t,da code lib 123 [.flat (.string (S s)),.flat (.int .i64 (k:Nat))] [] []=some ([.agg (wa t),.flat (.bool false)],false,[],[]):=by
 have C:(⟨#[]⟩:ByteArray)=S []:=rfl;have G:wa Z0=[.flat (.int .u8 0),.flat (.string (S [])),.flat (.string (S [])),.ga 0 [],.flat (.int .i64 0),.flat (.int .i64 0)]:=rfl;have b:((UInt8.toNat 99:Nat):Int)=99:=rfl;have g:((UInt8.toNat 116:Nat):Int)=116:=rfl;have D:((UInt8.toNat 60:Nat):Int)=60:=rfl;have E:((UInt8.toNat 62:Nat):Int)=62:=rfl;have v:s[k]?=some s[k]:=qe J;obtain⟨c,I⟩:∃c,s[k]=c:=⟨_,rfl⟩;rw[I]at v;have d:k<=s.length:=aa
 have B:Ub s [60] k=decide (c.toNat=60):=by
  rw[fj d,nI,v,decide_eq_decide,Pb];exact⟨fun h=>by simp_all,fun h=>Yb.1 h⟩
 have n:=So (lib:=lib) s [60,47] k aa ha aa;unfold rj;cases j:Ub s [60,47] k with
 |true=>
  rw[j]at n;have a:(c.toNat=60)=True:=eq_true (by
   grind [fj,List.drop_eq_getElem_cons])
  have F:=Lr d (by rw[<-fj d];exact j);simp only[if_true,sa,Ca,Zc,Nat.reduceAdd]at F⊢;have u:=HJ (lib:=lib) s (k+2) aa F;have H:=zn F;have i:=OE (lib:=lib) sg (zb s (k+2)) ha;have r:=KW (lib:=lib) (zb s (k+2));have e:=fT (lib:=lib);have o:=So (lib:=lib) s [62] (k+2+(zb s (k+2)).length) aa ha aa;simp only[Ee,uB]at u o;obtain⟨w,K⟩:∃w,zb s (k+2)=w:=⟨_,rfl⟩;rw[K]at u i r o H⊢;have e2:((2:Nat):Int)=2:=rfl;have e5:k+2+w.length+1=k+(2+w.length+1):=aa
  cases y:sg.contains w with
  |false=>
   rw[y]at i;simp only[De,Ha,if_false];refine⟨⟨99,w,[],[],k,k+2+w.length+1⟩,?_⟩;simp only[wa,b,uc,mg,Ca];refine ja ep (qa rfl) ?_;simp(maxSteps:=999999) (disch:=first|assumption|omega) only[go_sem,simprocAttr,au,C,v,a,n,u,i,e,e2,Pc]
  |true=>
   rw[y]at i;cases z:Yi w with
   |true=>
    rw[z]at r;simp only[nm,De,fi,Ha,if_false];refine⟨⟨99,w,[],[],k,k+2+w.length+1⟩,?_⟩;simp only[wa,b,uc,mg,Ca];refine ja ep (qa rfl) ?_;simp(maxSteps:=999999) (disch:=first|assumption|omega) only[go_sem,simprocAttr,au,C,v,a,n,u,i,r,e,e2,Pc]
   |false=>
    rw[z]at r;cases A:Ub s [62] (k+2+w.length)with
    |false=>
     rw[A]at o;simp only[pn,fi,Ha,if_false];refine⟨⟨99,w,[],[],k,k+2+w.length+1⟩,?_⟩;simp only[wa,b,uc,mg,Ca];refine ja ep (qa rfl) ?_;simp(maxSteps:=999999) (disch:=first|assumption|omega) only[go_sem,simprocAttr,au,C,v,a,n,u,i,r,o,e,e2,Pc]
    |true=>
     rw[A]at o;simp only[pn,Bg,if_true];simp only[wa,b,uc,mg,Ca];refine ja ep (qa rfl) ?_;simp(maxSteps:=999999) (disch:=first|assumption|omega) only[go_sem,simprocAttr,au,C,v,a,n,u,i,r,o,e,e2,Pc]
 |false=>
  rw[j]at n;simp only[Ha,if_false];rw[B];by_cases o:c.toNat=60
  ·have a:=eq_true o
   have i:=za5 (lib:=lib) s hs k aa;simp only[o,decide_true,if_true];obtain⟨x,r⟩:∃x,(if sg.contains (zb s (k+1))then lk s (k+1+(zb s (k+1)).length)else none)=x:=⟨_,rfl⟩;have e:(if sg.contains (zb s (k+1))then(lk s (k+1+(zb s (k+1)).length)).map (fun q=>(⟨111,zb s (k+1),[],q.1,k,q.2⟩:Tok))else none)=x.map (fun q=>(⟨111,zb s (k+1),[],q.1,k,q.2⟩:Tok)):=by
    rw[<-r];split<;>rfl
   rw[e];rw[r]at i;cases x with
   |none=>
    obtain⟨t,i⟩:=i;simp only[aj];refine⟨t,?_⟩;simp only[wa]at i⊢;refine ja ep (qa rfl) ?_;exact Kb @Ld @zm
   |some q=>
    obtain⟨l,p⟩:=q;simp only[jd];simp only[wa]at i⊢;refine ja ep (qa rfl) ?_;exact Kb @Ld @zm
  ·have a:=eq_false o
   have e:=pV (lib:=lib) s 60 62 k hs d;rw[D,E]at e;simp only[o,decide_false,Ha,if_false];cases i:Si s 60 62 k with
   |none=>
    rw[i]at e;simp only[aj];refine⟨⟨116,[],[],[],k,0⟩,?_⟩;simp only[wa,g,uc,mg,Ca,n0];refine ja ep (qa rfl) ?_;exact Kb @Ld @zm
   |some q=>
    obtain⟨x,p⟩:=q;rw[i]at e;simp only[jd];simp only[wa,g,uc,mg,Ca];refine ja ep (qa rfl) ?_;exact Kb @Ld @zm
theorem zg2(s)(hs:s.length<=100000000):
 da code lib 60 [.flat (.string (S s))] [] []=match Wi s with
 |some l=>some ([.ga l.length (qc l),.flat (.int .i64 0)],false,[],[])
 |none=>some ([.ga 0 [],.flat (.int .i64 7)],false,[],[]):=by
 have r:(⟨#[]⟩:ByteArray)=S []:=rfl;have e:=q6 (lib:=lib) s (by grind [Sm])
 have hrel:=Sl (body:=oa (da code lib) ia FC) (live:=[0,4,5]) (nb:=0) (fun(_:Unit)(q:List Tok×Nat)=>(⟨[(0,.flat (.string (S s))),(4,.ga q.1.length (qc q.1)),(5,.flat (.int .i64 (q.2:Nat)))],[.slot 4],[],[]⟩:St))
  (ti s) none (fun q o st=>match q with
    |some l=>o=.exit 0/\st=⟨[(4,.ga l.length (qc l))],[.slot 4],[],[]⟩
    |none=>o=.ret/\∃y,st=⟨[(2,.ga 0 []),(3,.flat (.int .i64 7))],[.slot 2],[],[y]⟩) (fun q=>q.2<=s.length/\q.1.length<=q.2) (fun q=>s.length - q.2) (fun _ ⟨l,j⟩ g=>?_) (fun _ ⟨l,j⟩ g=>?_) (fun a c b h=>cB (fun k t=>bA) a c b h) (n:=s.length+1) (m:=ia) () ([],0) ⟨Ab _,Aa _⟩ aa (by grind [ia])
 ·unfold Wi
  cases i:Vh s with
  |false=>
   rw[i]at e;simp only[Ha,if_false];refine ja HD (qa rfl) ?_;exact ta
  |true=>
   rw[i]at e;simp only[if_true];obtain⟨o,st,p,b⟩:=hrel;simp only[qc,mg,Ca,n0]at p;cases d:Ob (ti s) none (s.length+1) ([],0)with
   |some l=>
    rw[d]at b;obtain⟨rfl,rfl⟩:=b;refine ja HD (qa rfl) ?_;exact ua @gm
   |none=>
    rw[d]at b;obtain⟨rfl,y,rfl⟩:=b;refine ja HD (qa rfl) ?_;exact ua @gm
 ·dsimp only at g⊢
  unfold ti;dsimp only;by_cases fa:s.length<=j
  ·simp only[fa,if_true]
   refine⟨.exit 0,⟨[(4,.ga l.length (qc l))],[.slot 4],[],[]⟩,?_,ea,rfl,rfl⟩;exact ua PH
  ·simp only[fa,if_false]
   have b:=zaU (lib:=lib) s hs j aa;cases d:rj s j with
   |none=>
    rw[d]at b;obtain⟨t,b⟩:=b;refine⟨.ret,⟨[(2,.ga 0 []),(3,.flat (.int .i64 7))],[.slot 2],[],[(135,wa t)]⟩,?_,ea,rfl,_,rfl⟩;simp only[wa]at b⊢;exact ye PH @Ld @zm
   |some t=>
    rw[d]at b;refine⟨(),?_⟩;simp only[wa]at b⊢;have p:l.length+1<=za:=Ie
    have i:qc l++[.flat (.int .u8 t.kind.toNat),.flat (.string (S t.name)),.flat (.string (S t.text)),.ga t.Kk.length (uc t.Kk),.flat (.int .i64 (t.fr:Nat)),.flat (.int .i64 (t.to:Nat))]=qc (l++[t]):=by rw[<-nW];rfl
    exact ze PH @Uf @Ld @zm @gm @Da.{0}
 ·exact ta
def qj(t:Tok)(op:List ba):Option (List ba):=
 if t.kind.toNat=111/\Yi t.name=false then(if 32<op.length+1 then none else some (op++[t.name]))
 else if t.kind.toNat=99 then(if op.getLast?=some t.name then some op.dropLast else none)else some op
def bl(L:List Tok)(q:List ba×Nat):(List ba×Nat) ⊕ Option (List ba):=match L[q.2]? with
 |none=>.inr (some q.1)
 |some t=>match qj t q.1 with
  |none=>.inr none
  |some op=>.inl (op,q.2+1)
def co(L:List Tok):Bool:=decide (Ob (bl L) none (L.length+1) ([],0)=some [])
theorem zac{t}{op a}(h:op.length<=32)(b:qj t op=some a):a.length<=32:=by
 grind [qj]
def zab(L):∀a b,(a.2<=L.length/\a.1.length<=32)->bl L a=.inl b->(b.2<=L.length/\b.1.length<=32)/\L.length - b.2<L.length - a.2:=by
 grind [bl,zac]
def iJ{l}{k}{x}(h:l[k]?=some x):(qc l).drop (k* 6)=wa x++qc (l.drop (k+1)):=by
 induction l generalizing k with
 |nil=>cases h
 |cons a l b=>
  show(wa a++qc l).drop _=_;cases k with
  |zero=>
   grind
  |succ k=>
   rw[yk]at h;have e:(k+1)* 6=6+k* 6:=aa
   rw[e,<-Cd];show(qc l).drop _=_
   grind
def rS{op}{n}(h:op.length=n+1):∃x,op[n]?=some x/\op.getLast?=some x/\op.dropLast=op.take n/\(va op).drop n=[.flat (.string (S x))]:=by
 have fa:n<op.length:=aa
 refine⟨op[n],qe fa,?_,?_,?_⟩
 ·grind
 ·grind [List.dropLast_eq_take]
 grind [va.eq_1,List.drop_eq_getElem_cons]
def zad(L)(J:L.length<=1000000000):da code lib 65 [.ga L.length (qc L)] [] []=some ([.flat (.bool (co L))],false,[],[]):=by
 have hrel:=Sl (body:=oa (da code lib) ia EC) (live:=[0,3,4]) (nb:=0) (fun(o:Bool)(q:List ba×Nat)=>(⟨[(0,.ga L.length (qc L)),(3,.ga q.1.length (va q.1)),(4,.flat (.int .i64 (q.2:Nat)))],if o then[.slot 3]else[],[],[]⟩:St))
  (bl L) none (fun q o st=>match q with
    |some op=>o=.exit 0/\∃b:Bool,st=⟨[(3,.ga op.length (va op))],if b then[.slot 3]else[],[],[]⟩
    |none=>o=.ret/\st=⟨[(2,.flat (.bool false))],[],[],[]⟩) (fun q=>q.2<=L.length/\q.1.length<=32) (fun q=>L.length - q.2) (fun o ⟨op,k⟩ C=>?_) (fun o ⟨op,k⟩ C=>?_) (zab L) (n:=L.length+1) (m:=ia) true ([],0) ⟨Ab _,ea⟩ aa (by grind [ia])
 ·obtain⟨o,st,d,a⟩:=hrel
  unfold co;simp only[va,Fe,Ca,n0,if_true]at d;cases c:Ob (bl L) none (L.length+1) ([],0)with
  |none=>
   rw[c]at a;obtain⟨rfl,rfl⟩:=a;refine ja HO (qa rfl) ?_;exact ta
  |some op=>
   rw[c]at a;obtain⟨rfl,b,rfl⟩:=a;have g:(op.length=0)=(op=[]):=propext List.length_eq_zero_iff;refine ja HO (qa rfl) ?_;by_cases e:op=[]
   ·subst e
    cases b
    ·exact ta
    ·exact ta
   ·have p:=eq_false e
    have r:=fun h=>e (qz h)
    cases b
    ·exact ta
    ·exact ta
 ·dsimp only at C
  dsimp only;unfold bl;dsimp only;have a:(if o=true then[Loc.slot 3]else[])=[Loc.slot 3]\/(if o=true then[Loc.slot 3]else[])=([]:List Loc):=by cases o<;>simp
  by_cases F:k<L.length
  ·have u:=qe F
   obtain⟨t,ht⟩:∃t,L[k]=t:=⟨_,rfl⟩;rw[ht]at u;have i:=iJ u;simp only[wa,Fa,Ma]at i;have D:=KW (lib:=lib) t.name;have E:op.length<=za:=Ie
   have B:op.length+1<=za:=Ie
   have H:va op++[PV.flat (.string (S t.name))]=va (op++[t.name]):=by rw[<-Nr];rfl
   simp only[u];unfold qj;by_cases p:t.kind.toNat=111
   ·have g:=eq_true p
    have d:(t.kind.toNat=99)=False:=eq_false aa;cases j:Yi t.name with
    |true=>
     rw[j]at D;simp only[p,px,and_false,if_false];refine⟨o,?_⟩;rcases a with a|a<;>rw[a]
     ·exact Lg qi @Uf @dd @Mf
     ·exact Lg qi @Uf @dd @Mf
    |false=>
     rw[j]at D;simp only[p,and_self,if_true];by_cases c:32<op.length+1
     ·simp only[c,if_true]
      refine⟨.ret,⟨[(2,.flat (.bool false))],[],[],[]⟩,?_,ea,rfl,rfl⟩;rcases a with a|a<;>rw[a]
      ·exact mj qi @Uf @dd @Mf @Da.{0}
      ·exact mj qi @Uf @dd @Mf @Da.{0}
     ·simp only[c,if_false]
      refine⟨true,?_⟩;rcases a with a|a<;>rw[a]
      ·exact mj qi @Uf @dd @Mf @Da.{0}
      ·exact mj qi @Uf @dd @Mf @Da.{0}
   ·have g:=eq_false p
    by_cases r:t.kind.toNat=99
    ·have d:=eq_true r
     simp only[r,if_true];by_cases e:op=[]
     ·subst e
      simp only[List.getLast?_nil,reduceCtorEq,if_false];refine⟨.ret,⟨[(2,.flat (.bool false))],[],[],[]⟩,?_,ea,rfl,rfl⟩;rcases a with a|a<;>rw[a]
      ·exact Lg qi @Uf @dd @Mf
      ·exact Lg qi @Uf @dd @Mf
     ·obtain⟨n,G⟩:∃n,op.length=n+1:=⟨op.length - 1,by have:op.length≠0:=fun h=>e (qz h);omega⟩
      obtain⟨x,I,z,A,j⟩:=rS G;have en:(op.length:Int) - 1=(n:Nat):=aa
      have w:IntKind.i64.wrap ((op.length:Int) - 1)=(n:Nat):=by rw[wrap64 aa];omega
      rw[z,A];by_cases l:x=t.name
      ·have c:=eq_true l
       simp only[Pb,c,if_true];refine⟨false,?_⟩;have v:(va op).take n=va (op.take n):=by simp only[va,List.map_take]
       have y:(op.take n).length=n:=by rw[Ue];omega
       simp only[y,Ha,if_false];rcases a with a|a<;>rw[a]
       ·simp(maxSteps:=999999) (disch:=first|assumption|omega) only[go_sem,simprocAttr,au,qi,i,g,d,j,c,w,v,Uf,dd,Mf,Nat.sub_zero]
       ·simp(maxSteps:=999999) (disch:=first|assumption|omega) only[go_sem,simprocAttr,au,qi,i,g,d,j,c,w,v,Uf,dd,Mf,Nat.sub_zero]
      ·have c:=eq_false l
       have v:(some x=some t.name)=False:=eq_false (fun h=>l la);simp only[c,Pb,if_false];refine⟨.ret,⟨[(2,.flat (.bool false))],[],[],[]⟩,?_,ea,rfl,rfl⟩;rcases a with a|a<;>rw[a]
       ·simp(maxSteps:=999999) (disch:=first|assumption|omega) only[go_sem,simprocAttr,au,qi,i,g,d,j,c,w,Uf,dd,Mf]
       ·simp(maxSteps:=999999) (disch:=first|assumption|omega) only[go_sem,simprocAttr,au,qi,i,g,d,j,c,w,Uf,dd,Mf]
    ·have d:=eq_false r
     simp only[p,r,false_and,if_false];refine⟨o,?_⟩;rcases a with a|a<;>rw[a]
     ·exact Lg qi @Uf @dd @Mf
     ·exact Lg qi @Uf @dd @Mf
  ·have u:L[k]?=none:=Qf aa
   simp only[u];refine⟨.exit 0,⟨[(3,.ga op.length (va op))],if o then[.slot 3]else[],[],[]⟩,?_,ea,rfl,o,rfl⟩;rcases a with a|a<;>rw[a]
   ·exact Kb qi @Uf
   ·exact Kb qi @Uf
 ·cases o<;>dsimp only
  ·exact ta
  ·exact ta
def Qg:ba->ba->Bool
 |[],_=>false
 |x::l,w=>w.isPrefixOf (x::l)||Qg l w
theorem OW{s w:ba}{r}{fin}:∀(t:ba)(k),s.drop k=t->k+t.length=s.length->Ve (fun(_:Unit) k(_:UInt8)=>if Ub s w k then .inr r else .inl ()) fin () k t=if Qg t w then r else fin ()
 |[],k,_,_=>rfl
 |x::t,k,h,b=>by
  have a:k<=s.length:=aa
  have ht:=Pm h;rw[Ve,Qg,fj a,h];cases c:w.isPrefixOf (x::t)with
  |true=>rfl
  |false=>
   simp only[Ha,if_false,Wg];exact OW t (k+1) ht la
def XI(s w)(hs:s.length<=100000000)(e:w.length<=100000000):da code lib 64 [.flat (.string (S s)),.flat (.string (S w))] [] []=some ([.flat (.bool (Qg s w))],false,[],[]):=by
 have a:=fk (body:=oa (da code lib) ia KC) (live:=[0,1,5]) (nb:=0) (fun(_:Unit) k=>⟨[(0,.flat (.string (S s))),(1,.flat (.string (S w))),(5,.flat (.int .i64 (k:Nat)))],[],[],[]⟩) s (fun _ _=>True)
  (fun _ k(_:UInt8)=>if Ub s w k then .inr (.ret,⟨[(4,.flat (.bool true))],[],[],[]⟩)else .inl ()) (fun _=>(.exit 0,⟨[],[],[],[]⟩)) (fun _ k x _ d b c=>?_) (fun _ _=>by simp only[go_sem,simprocAttr]) (fun _ _ _ _ _ _ _ _=>trivial) (fun _ _ x r h=>by split at h<;>simp at h;rw[<-h];simp) (fun _ _=>?_) (fun _=>by simp) () trivial Im
 ·rw[OW s 0 rfl aa]at a
  simp only[n0]at a;refine ja L0 (qa rfl) ?_;cases b:Qg s w with
  |true=>
   simp only[b,if_true]at a;exact ta
  |false=>
   simp only[b,Ha,if_false]at a;exact ta
 ·have b:=So (lib:=lib) s w k aa aa aa
  cases c:Ub s w k with
  |true=>
   rw[c]at b;simp only[if_true];exact ua SH
  |false=>
   rw[c]at b;simp only[Ha,if_false];exact ua SH
 ·exact ua SH
def Ro:ba:=[60,62,40,41,91,93,44,59,58,34,92]
def uj(c:UInt8):Bool:=!(decide (c.toNat<=32)||(decide (126<c.toNat)||Ro.contains c))
theorem YI(c):∀s,Qg s [c]=s.contains c
 |[]=>rfl
 |x::l=>by
  rw[Qg,List.contains_cons,YI c l]
  grind
def ef(c:UInt8):ba->Option Nat
 |[]=>none
 |x::l=>match ef c l with
  |some i=>some (i+1)
  |none=>if x=c then some 0 else none
def Px(s:ba):Bool:=s.all uj&&(decide (3<=s.length)&&(decide (s.length<=60)&&((match Dc 64 s with|none=>false|some i=>decide (0<i)&&(decide (i+1<s.length)&&decide (ef 64 s=some i)))&& !Qg s [61,63])))
def Ik(s:ba):Bool:=!(decide (s.length<3)||(decide (60<s.length)||(decide (s[0]?=some 64)||(decide (s[s.length - 1]?=some 64)||Qg s [61,63]))))&&(s.all uj&&decide (s.count 64=1))
def Bu(lib:Callee):Prop:=∀(s:ba)(c:UInt8),s.length<=1000000000->lib 157 [.flat (.string (S s)),.flat (.int .u8 c.toNat)] [] []=some ([.flat (.int .i64 (match ef c s with|some i=>(i:Int)|none=>-1))],false,[],[])
def zu(lib:Callee):Prop:=∀s:ba,s.length<=1000000000->lib 158 [.flat (.string (S s)),.flat (.string (S [61,63]))] [] []=some ([.flat (.bool (Qg s [61,63]))],false,[],[])
def eK(w:Ge lib)(B:Bu lib)(A:zu lib)(s)(hs:s.length<=100000000):da code lib 94 [.flat (.string (S s))] [] []=some ([.flat (.bool (Px s))],false,[],[]):=by
 have a:=fk (body:=oa (da code lib) ia bC) (live:=[0,6,7]) (nb:=0) (fun(_:Unit) k=>⟨[(0,.flat (.string (S s))),(6,.flat (.int .i64 (s.length:Nat))),(7,.flat (.int .i64 (k:Nat)))],[],[],[]⟩) s (fun _ _=>True)
  (fun _ k x=>if uj x then .inl ()else .inr (.ret,⟨[(2,.flat (.bool false))],[],[],[]⟩)) (fun _=>(.exit 0,⟨[(0,.flat (.string (S s)))],[],[],[]⟩)) (fun _ k c _ g d e=>?_) (fun _ _=>by simp only[go_sem,simprocAttr]) (fun _ _ _ _ _ _ _ _=>trivial) (fun _ _ x r h=>by split at h<;>simp at h;rw[<-h];simp) (fun _ _=>?_) (fun _=>by simp) () trivial Im
 ·rw[oB]at a
  simp only[n0]at a;have v:=Ep w s 64 aa;have g:da code lib 157 [.flat (.string (S s)),.flat (.int .u8 ((64:UInt8).toNat:Nat))] [] []=some ([.flat (.int .i64 (match ef 64 s with|some i=>(i:Int)|none=>-1))],false,[],[]):=tf ha ca (B s 64 aa);have l:da code lib 158 [.flat (.string (S s)),.flat (.string (S [61,63]))] [] []=some ([.flat (.bool (Qg s [61,63]))],false,[],[]):=tf ha ca (A s aa);have t:((UInt8.toNat 64:Nat):Int)=64:=rfl;rw[t]at v g;unfold Px;refine ja zZ (qa rfl) ?_;cases y:s.all uj with
  |false=>
   simp only[y,Ha,if_false]at a;simp only[De];exact ta
  |true=>
   simp only[y,if_true]at a;simp only[pd];rcases mb (3<=s.length)with q|q
   ·rcases mb (s.length<=60)with d|d
    ·simp only[q,d,decide_true,pd]
     cases b:Dc 64 s with
     |none=>
      simp only[b]at v;simp only[De];exact ta
     |some i=>
      simp only[b]at v;dsimp only;rcases mb (0<i)with p|p
      ·rcases mb (i+1<s.length)with u|u
       ·simp only[p,u,decide_true,pd]
        cases fa:ef 64 s with
        |none=>
         simp only[fa]at g;simp only[reduceCtorEq,decide_false,De];exact ta
        |some j=>
         simp only[fa]at g;by_cases e:j=i
         ·subst e
          simp only[decide_true,pd];cases o:Qg s [61,63]with
          |true=>
           rw[o]at l;exact ta
          |false=>
           rw[o]at l;exact ta
         ·have o:(some j=some i)=False:=eq_false (fun h=>e la)
          have z:(i=j)=False:=eq_false (fun h=>e h.symm);simp only[o,decide_false,De];exact ta
       ·simp only[p,u,decide_true,decide_false,pd,De]
        exact ta
      ·simp only[p,decide_false,De]
       exact ta
    ·simp only[q,d,decide_true,decide_false,pd,De]
     exact ta
   ·simp only[q,decide_false,De]
    exact ta
 ·have g:=Ep w Ro c ha
  have e:Ro=[60,62,40,41,91,93,44,59,58,34,92]:=rfl;have d:=Fq c Ro;unfold uj;obtain⟨n,j⟩:∃n,c.toNat=n:=⟨_,rfl⟩;cases b:Dc c Ro with
  |none=>
   rw[b]at d;simp only[b]at g;rw[<-d];rw[e,j]at g;rw[j];simp only[Option.isSome_none];rcases mb (n<=32)with l|l<;>rcases mb (126<n)with a2|a2
   all_goals first|(exfalso;omega)|skip
   all_goals
    exact ua FH
  |some i=>
   rw[b]at d;simp only[b]at g;rw[<-d];rw[e,j]at g;rw[j];simp only[Option.isSome_some];rcases mb (n<=32)with l|l<;>rcases mb (126<n)with a2|a2
   all_goals first|(exfalso;omega)|skip
   all_goals
    exact ua FH
 ·exact ua FH
theorem NW{r}{fin}:∀(L:ba)(n k),Ve (fun(n:Nat) _(x:UInt8)=>if uj x then .inl (if x.toNat=64 then n+1 else n)else .inr r) fin n k L=if L.all uj then fin (n+L.count 64)else r
 |[],n,k=>rfl
 |x::t,n,k=>by
  rw[Ve,Ck,List.count_cons];cases b:uj x with
  |true=>
   simp only[if_true,pd];rw[NW t _ _];by_cases h:x.toNat=64
   ·have a:x=64:=Yb.1 h
    grind
   ·have a:(x==64)=false:=by simpa using fun e=>h dh
    grind
  |false=>rfl
def dK(s)(hs:s.length<=100000000):da code lib 63 [.flat (.string (S s))] [] []=some ([.flat (.bool (Ik s))],false,[],[]):=by
 have b:=fk (body:=oa (da code lib) ia LC) (live:=[0,3,4]) (nb:=0) (fun(n:Nat) k=>⟨[(0,.flat (.string (S s))),(3,.flat (.int .i64 (n:Nat))),(4,.flat (.int .i64 (k:Nat)))],[],[],[]⟩) s (fun n k=>n<=k)
  (fun n k x=>if uj x then .inl (if x.toNat=64 then n+1 else n)else .inr (.ret,⟨[(2,.flat (.bool false))],[],[],[]⟩)) (fun n=>(.exit 0,⟨[(3,.flat (.int .i64 (n:Nat)))],[],[],[]⟩)) (fun n k c d g e C=>?_) (fun _ _=>by simp only[go_sem,simprocAttr]) (fun n k x a' d _ _ h=>by
    grind) (fun _ _ x r h=>by grind) (fun n i=>?_) (fun _=>by simp) 0 (Aa _) (by grind [ia])
 ·rw[NW,Zc]at b
  simp only[n0]at b;have j:=XI (lib:=lib) s [61,63] hs ha;unfold Ik;refine ja N0 (qa rfl) ?_;rcases mb (s.length<3)with y|y
  ·simp only[y,decide_true,oq,nm,De]
   exact ta
  rcases mb (60<s.length)with d|d
  ·simp only[d,decide_true,oq,tn,nm,De]
   exact ta
  simp only[y,d,decide_false,Wg];have l:s[0]?=some s[0]:=qe aa;have o:s[s.length - 1]?=some (s[s.length - 1]' aa):=qe aa;obtain⟨a,q⟩:∃a,s[0]=a:=⟨_,rfl⟩;obtain⟨z,A⟩:∃z,s[s.length - 1]' aa=z:=⟨_,rfl⟩;rw[q]at l;rw[A]at o;rw[l,o];have D:IntKind.i64.wrap ((s.length:Int) - 1)=((s.length - 1:Nat):Int):=by rw[wrap64 aa];omega
  have t:(some a=some (64:UInt8))=(a.toNat=64):=by
   apply propext;rw[Pb];exact⟨fun h=>by simp_all,fun h=>Yb.1 h⟩
  have u:(some z=some (64:UInt8))=(z.toNat=64):=by
   apply propext;rw[Pb];exact⟨fun h=>by simp_all,fun h=>Yb.1 h⟩
  simp only[t,u];have B:s.count 64<=s.length:=List.count_le_length;rcases mb (a.toNat=64)with g|g
  ·have v:=eq_true g
   simp only[g,decide_true,oq,nm,De];exact ta
  have v:=eq_false g;rcases mb (z.toNat=64)with i|i
  ·have w:=eq_true i
   simp only[g,i,decide_true,decide_false,Wg,oq,nm,De];exact ta
  have w:=eq_false i;simp only[g,i,decide_false,Wg];cases p:Qg s [61,63]with
  |true=>
   rw[p]at j;simp only[nm,De];exact ta
  |false=>
   rw[p]at j;simp only[pn,pd];cases q:s.all uj with
   |false=>
    simp only[q,Ha,if_false]at b;simp only[De];exact ta
   |true=>
    simp only[q,if_true]at b;simp only[pd];rcases mb (s.count 64=1)with e|e
    ·simp only[e,decide_true]at b⊢
     exact ta
    ·simp only[e,decide_false]
     exact ta
 ·have d:=XI (lib:=lib) Ro [c] ha ea
  have e:Ro=[60,62,40,41,91,93,44,59,58,34,92]:=rfl;rw[YI]at d;have l:(s.take (k+1)).drop k=[c]:=by
   rw[ds,C,yi];rfl
  unfold uj;obtain⟨v,o⟩:∃v,Ro.contains c=v:=⟨_,rfl⟩;rw[o]at d⊢;rw[e]at d;obtain⟨m,j⟩:∃m,c.toNat=m:=⟨_,rfl⟩;rw[j];rcases mb (m<=32)with g|g<;>rcases mb (126<m)with a2|a2<;>rcases mb (m=64)with a3|a3<;>cases v
  all_goals first|(exfalso;omega)|skip
  all_goals
   first|have i:=eq_false a3|have i:=eq_true a3
   exact ua cU
 ·exact ua cU
theorem tK{c}:∀{s}{i},Dc c s=some i->∃p t,s=p++c::t/\c∉p/\p.length=i
 |[],i,h=>by cases h
 |x::l,i,h=>by
  unfold Dc at h;split at h
  ·rename_i e
   cases h;simp_all
  ·rename_i e
   obtain⟨j,a,rfl⟩:=qm h;obtain⟨p,t,b,d,g⟩:=tK a
   grind
theorem HX{c}{s}(h:Dc c s=none):c∉s:=by
 grind [Fq]
theorem vr{c}:∀{s},c∉s->ef c s=none
 |[],_=>rfl
 |x::l,h=>by
  simp only[wb,not_or]at h;simp only[ef,vr h.2]
  grind
theorem Qz{c}:∀{s},c∈s->∃i,ef c s=some i
 |[],h=>by cases h
 |x::l,h=>by
  by_cases a:c∈l
  ·obtain⟨i,b⟩:=Qz a
   grind [ef]
  ·have e:x=c:=by
    rcases wb.1 h with e|e
    ·grind
    ·grind
   exact⟨0,by grind [ef,vr]⟩
theorem Pz{c}{t}{i}(h:ef c t=some i):∀p,ef c (p++t)=some (p.length+i)
 |[]=>by grind
 |x::p=>by
  have:=Pz h p
  grind [ef]
def addr_eq(s):Px s=Ik s:=by
 unfold Px Ik;by_cases h:s.length<3
 ·grind
 by_cases e:60<s.length
 ·grind
 have d:3<=s.length:=aa
 have a:s.length<=60:=aa
 simp only[h,e,d,a,decide_false,decide_true,pd,Wg];cases q:s.all uj with
 |false=>simp
 |true=>
  simp only[pd];cases g:Dc 64 s with
  |none=>
   grind [HX,List.count_eq_zero]
  |some i=>
   obtain⟨p,t,rfl,o,rfl⟩:=tK g;have b:(p++64::t).count 64=1+t.count 64:=by
    rw[List.count_append,List.count_cons_self,List.count_eq_zero.2 o];omega
   have c:(p++64::t).length=p.length+1+t.length:=by simp only[Da,sa];omega
   rw[b,c];by_cases n:(64:UInt8)∈t
   ·obtain⟨j,k⟩:=Qz n
    have l:ef 64 (p++64::t)=some (p.length+(j+1)):=Pz (by simp only[ef,k]) p
    grind
   ·have l:ef 64 (p++64::t)=some (p.length+0):=Pz (by grind [ef,vr]) p
    grind [Option.some.injEq]
def Cu(lib:Callee):Prop:=∀L:List Tok,L.length<=1000000000->lib 162 [.ga L.length (qc L)] [] []=some ([.flat (.bool (co L))],false,[],[])
def Bt(s:ba):Bool:=match Wi s with
 |some l=>co l
 |none=>false
def kJ{s}{l}(h:Wi s=some l):l.length<=s.length:=by
 unfold Wi at h;split at h
 ·have:=rk (step:=ti s) (d:=none) (I:=fun q=>q.2<=s.length/\q.1.length<=q.2) (μ:=fun q=>s.length - q.2) (Q:=fun r=>∀l,r=some l->l.length<=s.length) (fun a c=>by
   cases hs:ti s a with
   |inl b=>exact cB (fun k t=>bA) a b c hs
   |inr r=>
    grind [ti]) (s.length+1) ([],0) ⟨Ab _,Aa _⟩ aa
  grind
 grind
def zbw(d:kc lib)(b:Qb lib)(c:Cu lib)(s)(hs:s.length<=100000000):da code lib 97 [.flat (.string (S s))] [] []=some ([.flat (.bool (Bt s))],false,[],[]):=by
 have ht:=jJ d b s hs;unfold Bt;refine ja BZ (qa rfl) ?_;cases a:Wi s with
 |none=>
  rw[a]at ht;exact ta
 |some l=>
  rw[a]at ht;have e:da code lib 162 [.ga l.length (qc l)] [] []=some ([.flat (.bool (co l))],false,[],[]):=tf ha ca (c l (by have:=kJ a;omega));exact ua @Vw
structure tc where
 fr:ba
 to:ba
 su:ba
 te:ba
 ht:ba
def xc(m:tc):List PV:=[.flat (.string (S m.fr)),.flat (.string (S m.to)),.flat (.string (S m.su)),.flat (.string (S m.te)),.flat (.string (S m.ht))]
def tc.small(m:tc):Prop:=m.fr.length<=10000/\m.to.length<=10000/\m.su.length<=10000/\m.te.length<=10000/\m.ht.length<=10000
def Gg(m:tc):Nat:=
 if(Ik m.fr&&Ik m.to)=false then 1
 else if sd m.su=m.su/\sd m.te=m.te/\sd m.ht=m.ht/\m.su.contains 10=false/\Bt m.ht=true then 0 else 7
def pZ(r:Ge lib)(y:Bu lib)(x:zu lib)(B:kc lib)(q:Qb lib)(A:Cu lib)(m)(H:m.small):da code lib 47 [.agg (xc m)] [] []=some ([.flat (.int .i64 (Gg m:Nat))],false,[],[]):=by
 obtain⟨fr,to,su,te,ht⟩:=m;obtain⟨C,D,E,F,G⟩:=H;dsimp only at C D E F G;have t:=eK r y x fr aa;have u:=eK r y x to aa;rw[addr_eq]at t u;have c1:=Pu q su aa;have c2:=Pu q te aa;have c3:=Pu q ht aa;have w:=Ep r su 10 aa;have e:=Fq 10 su;have n:=zbw B q A ht aa;have v:((UInt8.toNat 10:Nat):Int)=10:=rfl;rw[v]at w;unfold Gg;simp only[xc];refine ja AZ (qa rfl) ?_;cases z:Ik fr with
 |false=>
  rw[z]at t;simp only[De,if_true,n1];exact ta
 |true=>
 rw[z]at t;cases p:Ik to with
 |false=>
  rw[p]at u;simp only[fi,if_true,n1];exact ta
 |true=>
 rw[p]at u;simp only[Bg,px,if_false];have g:((7:Nat):Int)=7:=rfl;by_cases b:sd su=su
 ·have j:=eq_true b
  by_cases c:sd te=te
  ·have k:=eq_true c
   by_cases d:sd ht=ht
   ·have l:=eq_true d
    cases a:Dc 10 su with
    |some i=>
     rw[a]at e;simp only[a]at w;simp only[<-e,Option.isSome_some,px,false_and,and_false,if_false,g];exact ze @lc @Bb @Mb @Zb @Wc qt
    |none=>
     rw[a]at e;simp only[a]at w;cases o:Bt ht with
     |false=>
      rw[o]at n;simp only[Ha,and_false,if_false,g];exact ze @lc @Bb @Mb @Zb @Wc qt
     |true=>
      rw[o]at n;rw[if_pos ⟨b,c,d,la,rfl⟩];exact ze @lc @Bb @Mb @Zb @Wc qt
   ·have l:=eq_false d
    rw[if_neg (fun h=>d h.2.2.1),g];exact ze @lc @Bb @Mb @Zb @Wc qt
  ·have k:=eq_false c
   rw[if_neg (fun h=>c h.2.1),g];exact ze @lc @Bb @Mb @Zb @Wc qt
 ·have j:=eq_false b
  rw[if_neg (fun h=>b h.1),g];exact ze @lc @Bb @Mb @Zb @Wc qt
def nZ(m)(y:m.small):da code lib 29 [.agg (xc m)] [] []=some ([.flat (.int .i64 (Gg m:Nat))],false,[],[]):=by
 obtain⟨fr,to,su,te,ht⟩:=m;obtain⟨t,u,v,w,x⟩:=y;dsimp only at t u v w x;have o:=dK (lib:=lib) fr aa;have p:=dK (lib:=lib) to aa;have c1:=Ou (lib:=lib) su aa;have c2:=Ou (lib:=lib) te aa;have c3:=Ou (lib:=lib) ht aa;have n:=XI (lib:=lib) su [10] aa ha;rw[YI]at n;have g:=zg2 (lib:=lib) ht aa;unfold Gg;simp only[xc];refine ja O0 (qa rfl) ?_;cases r:Ik fr with
 |false=>
  rw[r]at o;simp only[De,if_true,n1];exact ta
 |true=>
 rw[r]at o;cases i:Ik to with
 |false=>
  rw[i]at p;simp only[fi,if_true,n1];exact ta
 |true=>
 rw[i]at p;simp only[Bg,px,if_false];have q:((7:Nat):Int)=7:=rfl;unfold Bt;cases k:Wi ht with
 |none=>
  rw[k]at g;dsimp only at g⊢;simp only[Ha,and_false,if_false,q];rcases mb (sd su=su)with b1|b1<;>rcases mb (sd te=te)with b|b<;>rcases mb (sd ht=ht)with d|d<;>cases j:su.contains 10
  all_goals
   rw[j]at n
   first|have a:=eq_false b1|have a:=eq_true b1
   first|have c:=eq_false b|have c:=eq_true b
   first|have e:=eq_false d|have e:=eq_true d
   clear b1 b d;exact ta
 |some l=>
  rw[k]at g;have z:=zad (lib:=lib) l (by have:=kJ k;omega);dsimp only at g⊢;rcases mb (sd su=su)with b1|b1<;>rcases mb (sd te=te)with b|b<;>rcases mb (sd ht=ht)with d|d<;>rcases Ph (su.contains 10)with j|j<;>rcases Ph (co l)with h|h
  all_goals
   rw[j]at n;rw[h]at z
   first|have a:=eq_false b1|have a:=eq_true b1
   first|have c:=eq_false b|have c:=eq_true b
   first|have e:=eq_false d|have e:=eq_true d
   clear b1 b d;simp only[a,c,e,j,h,Ha,px,and_true,and_false,if_true,if_false,q,n0];exact ua @Vw
def Nt(n:Nat)(t:Tok):Prop:=t.name.length<=n/\t.Kk.length<=n/\∀a∈t.Kk,a.name.length<=n
def VW(s:ba)(k:Nat):(zb s k).length<=s.length:=by
 unfold zb;have h:=(ox (p:=Vk) (l:=s.drop k)).length_le;rw[fc]at h;omega
def IX{s:ba}{k:Nat}{q}(h:Cm s k=some q):q.1.name.length<=s.length:=by
 have:=VW s k;unfold Cm at h
 grind
def za3{s:ba}{k:Nat}(t:k<=s.length){q}(h:lk s k=some q):q.1.length<=s.length/\∀a∈q.1,a.name.length<=s.length:=by
 refine rk (step:=Kf s) (d:=none) (I:=fun a=>a.2<=s.length/\a.1.length<=s.length - k+0/\a.1.length+k<=a.2/\∀x∈a.1,x.name.length<=s.length) (μ:=fun a=>s.length - a.2) (Q:=fun r=>∀q,r=some q->q.1.length<=s.length/\∀a∈q.1,a.name.length<=s.length) (fun a p=>?_) (s.length+1) ([],k) ⟨t,ea,ea,ea⟩ wh q h;obtain⟨n,u,v,i⟩:=p;have o:=wv n;unfold Kf;split
 ·rename_i c b
  split at b
  ·cases b
  split at b
  ·cases b
  ·rename_i x e j
   have g1:=aC o j;have l:=IX j;split at b
   ·cases b
   ·cases b
    simp only[Da,sa,Ca]at g1⊢;refine⟨⟨g1.2,aa,aa,fun y g=>?_⟩,aa⟩;rcases We.1 g with g|g
    ·exact i y g
    ·rw[Ao.1 g];exact l
 ·rename_i r hr
  split at hr
  ·cases hr
   intro q b;cases b;exact⟨wh,i⟩
  split at hr
  ·cases hr;intro q b;cases b
  ·split at hr
   ·cases hr;intro q b;cases b
   ·cases hr
def zak{s:ba}{k:Nat}(c:k<=s.length){t}(h:rj s k=some t):Nt s.length t:=by
 have w:=VW s;unfold rj at h;split at h
 ·split at h
  ·cases h;exact⟨w _,ea,ea⟩
  ·cases h
 split at h
 ·rename_i i
  split at h
  ·obtain⟨q,d,rfl⟩:=qm h
   have a:k+1+(zb s (k+1)).length<=s.length:=by
    have b:=fj (w:=[60]) c;rw[i]at b;have e:=Lr c b.symm;simp only[sa,Ca]at e;have g:=(ox (p:=Vk) (l:=s.drop (k+1))).length_le;rw[fc]at g;unfold zb;omega
   have:=za3 a d;exact⟨w _,this.1,this.2⟩
  ·cases h
 ·obtain⟨q,d,rfl⟩:=qm h
  exact⟨ea,ea,ea⟩
def zg5{s:ba}{l}(h:Wi s=some l):∀t∈l,Nt s.length t:=by
 unfold Wi at h;split at h
 case isFalse=>cases h
 refine rk (step:=ti s) (d:=none) (I:=fun a=>(a.2<=s.length/\a.1.length<=a.2)/\∀t∈a.1,Nt s.length t) (μ:=fun a=>s.length - a.2) (Q:=fun r=>∀l,r=some l->∀t∈l,Nt s.length t) (fun a j=>?_) (s.length+1) ([],0) ⟨⟨Ab _,Aa _⟩,ea⟩ wh l h;obtain⟨e,g⟩:=j;cases hs:ti s a with
 |inl c=>
  obtain⟨g1,i⟩:=cB (fun k t=>bA) a c e hs;refine⟨⟨g1,?_⟩,i⟩;unfold ti at hs;split at hs
  ·cases hs
  split at hs
  ·cases hs
  ·rename_i t ht
   cases hs;intro x b;rcases We.1 b with b|b
   ·exact g x b
   ·rw[Ao.1 b];exact zak e.1 ht
 |inr r=>
  intro l b;unfold ti at hs;split at hs
  ·cases hs;cases b;exact g
  split at hs
  ·cases hs;cases b
  ·cases hs
abbrev Qe(m:tc)(l:List Tok):Nat×List PV:=(122,xc m++[.ga l.length (qc l)])
def ix(o:Option Nat):Int:=match o with
 |some i=>(i:Int)
 |none=>-1
theorem qS(c)(s):∀k,k<=s.length->Lib.lastIdx (S s) (c.toNat:Nat) k=ix (ef c (s.take k))
 |0,_=>by simp[Lib.lastIdx,ef,ix]
 |k+1,h=>by
  have n:k<s.length:=h;have ht:=xo n;have q:(S s).data[k]! =s[k]:=by
   show s.toArray[k]! =s[k];simp[n]
  rw[Lib.lastIdx,q,ht];by_cases a:s[k]=c
  ·have b:ef c [s[k]]=some 0:=by simp[ef,a]
   rw[Pz b,Ue,Nat.min_eq_left aa,a,if_pos rfl]
   all_goals (simp[ix])
  ·have o:¬((s[k].toNat:Int)=(c.toNat:Nat)):=fun e=>a (Yb.1 aa)
   rw[if_neg o,qS c s k aa];congr 1;by_cases d:c∈s.take k
   ·obtain⟨i,r⟩:=Qz d
    have:∀p:ba,(∃j,ef c p=some j)->ef c (p++[s[k]])=ef c p:=by
     intro p
     induction p with
     |nil=>rintro⟨j,g⟩;cases g
     |cons x l t=>
      rintro⟨j,g⟩;simp only[Fa,ef];by_cases b:c∈l
      ·rw[t (Qz b)]
      ·rw[vr b]
       rw[vr (s:=l++[s[k]]) (by
        rw[We];rintro(h|h)
        ·exact b h
        ·simp at h;exact a h.symm)]
    exact(this _ ⟨i,r⟩).symm
   ·rw[vr d,vr (s:=s.take k++[s[k]]) (by
     rw[We];rintro(h|h)
     ·exact d h
     ·simp at h;exact a h.symm)]
def D9(c)(s):Lib.lastIndexByte (S s) (c.toNat:Nat)=ix (ef c s):=by
 unfold Lib.lastIndexByte;rw[Ua,qS c s _ (Aa _),pm]
theorem RV(w:ba)(c:w≠[]):∀s:ba,Lib.contains s w=Qg s w
 |[]=>by
  unfold Lib.contains Lib.index Qg;cases w with
  |nil=>exact absurd rfl c
  |cons a l=>rfl
 |x::l=>by
  have h:=RV w c l;unfold Lib.contains at h⊢;unfold Lib.index Qg;rw[<-h];cases e:w.isPrefixOf (x::l)with
  |true=>simp
  |false=>
   simp only[Ha,if_false,Wg];have d:=Lib.index_ge l w;by_cases b:Lib.index l w=-1
   ·have:(Lib.index l w==-1)=true:=by simpa using b
    rw[this,if_pos rfl,b]
   ·have:(Lib.index l w==-1)=false:=by simpa using b
    rw[this,if_neg ea,decide_eq_decide];omega
end ya

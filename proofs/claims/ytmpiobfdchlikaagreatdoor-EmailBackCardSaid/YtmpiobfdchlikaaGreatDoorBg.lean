/- EmailBack answers true for every mail: what is built is read as it was, and what may not be built is refused for the document's reason; at any start where three tables (of base64, of UTF-8) are laid as start-up lays them. -/
import Derived.Test.YtmpiobfdchlikaaGreatDoorBf
import Derived.Lib.Replace
import Derived.IntWalk
import Derived.Deep.RegionHeld3
import Derived.Deep.AppendLies
import Derived.StillTactics
import Derived.OwnWalk
import Derived.KernelRfl
import Derived.Lib.Index
import Derived.Lib.IndexMore
import Derived.Lib.Strings
import Derived.RegionTactic
import Derived.ChangeAlike
import Derived.Lib.SplitLaws
import Derived.Shelf.Strings.SlTrimAscii
import Derived.Test.YtmpiobfdchlikaaGreatDoorRows
import Derived.LaidMore
import Derived.ProofKit
import Derived.OpenShut
import Derived.Stop.Joined
import Derived.Handed
import Derived.HandedShaped
import Derived.Lib.LaidU8
import Derived.Shelf.Vars
import Derived.Test.YtmpiobfdchlikaaGreatDoorTie
import Derived.Test.YtmpiobfdchlikaaGreatDoorCards
import Derived.SevenTiedAt
set_option linter.all false
set_option maxHeartbeats 4000000
namespace Nun
open Go Go.RowKit Go.Proofs Go.Proofs.YtmpiobfdchlikaaGreatDoor
variable {lib:Callee}
theorem ztc:∀F:List Fld,(zbi F).length=F.length* 2
 |[]=>rfl
 |(a,b)::l=>by simp only[zbi,waf,ztc l];omega
theorem zx1:∀{F:List Fld}{k:Nat}{a b:Str}{r:List Fld},F.drop k=(a,b)::r->(zbi F).drop (k* 2)=.flat (.string (S a))::.flat (.string (S b))::zbi r
 |(x,y)::l,0,a,b,r,h=>by
  simp only[wc8,wby,Prod.mk.injEq]at h;obtain⟨⟨rfl,rfl⟩,rfl⟩:=h;rfl
 |(x,y)::l,k+1,a,b,r,h=>by
  rw[show(k+1)* 2=k* 2+1+1 by omega];simp only[zbi,wah];exact zx1 h
 |[],k,a,b,r,h=>by simp at h
def z3g(lib:Callee):Prop:=∀s:Str,s.length<=1000000->lib 73 [.flat (.string (S s))] [] []=some ([.flat (.string (S (zc0 s)))],false,[],[])
def zow(lib:Callee):Prop:=∀s t:Str,s.length<=1000000->t.length<=1000000->lib 126 [.flat (.string (S s)),.flat (.string (S t))] [] []=some ([.flat (.bool (zc0 s==zc0 t))],false,[],[])
theorem z8y(H:z3g lib)(s:Str)(h:s.length<=1000000):evW code lib 73 [.flat (.string (S s))] [] []=some ([.flat (.string (S (zc0 s)))],false,[],[]):=zde (by decide) (by kernel_rfl) (H s h)
theorem ybf(H:zow lib)(s t:Str)(hs:s.length<=1000000)(ht:t.length<=1000000):evW code lib 126 [.flat (.string (S s)),.flat (.string (S t))] [] []=some ([.flat (.bool (zc0 s==zc0 t))],false,[],[]):=zde (by decide) (by kernel_rfl) (H s t hs ht)
theorem zkm(e:Nat):evW code lib 70 [.flat (.bool true),.flat (.int .i64 (e:Nat))] [] []=some ([],false,[],[]):=by
 refine zab zup (qa rfl) ?_;simp(maxSteps:=999999) (disch:=first|assumption|omega) only[go_sem,simprocAttr,au]
def yo1(c:UInt8):Bool:=!(((decide (c.toNat<48)||decide (57<c.toNat))&&(decide ((c.toNat|||32)<97)||decide (122<(c.toNat|||32))))&& !([45,95,61,46]:Str).contains c)
def ydm(s:Str):Bool:=s.all yo1&&(!decide (s=[])&&decide (s.length<=70))
theorem yix(HI:zf2 lib)(s:Str)(hs:s.length<=1000000000):evW code lib 76 [.flat (.string (S s))] [] []=some ([.flat (.bool (ydm s))],false,[],[]):=by
 have hloop:=zl5 (body:=evC (evW code lib) big zg6) (live:=[0,6,7]) (nb:=0) (fun(_:Unit) k=>⟨[(0,.flat (.string (S s))),(6,.flat (.int .i64 (s.length:Nat))),(7,.flat (.int .i64 (k:Nat)))],[],[],[]⟩) s (fun _ _=>True)
  (fun _ k x=>if yo1 x then .inl ()else .inr (.ret,⟨[(2,.flat (.bool false))],[],[],[]⟩)) (fun _=>(.exit 0,⟨[(0,.flat (.string (S s)))],[],[],[]⟩)) (fun _ k c _ hk hc hd=>?_) (fun _ _=>by simp only[go_sem,simprocAttr]) (fun _ _ _ _ _ _ _ _=>trivial) (fun _ _ x r h=>by split at h<;>simp at h;rw[<-h];simp) (fun _ _=>?_) (fun _=>by simp) () trivial (by unfold big;omega)
 ·rw[z18]at hloop
  simp only[n0]at hloop;unfold ydm;refine zab zro (qa rfl) ?_;cases ha:s.all yo1 with
  |false=>
   simp only[ha,wbf,if_false]at hloop;simp only[wdd];simp(maxSteps:=999999) (disch:=first|assumption|omega) only[go_sem,simprocAttr,au,hloop]
  |true=>
   simp only[ha,if_true]at hloop;simp only[wbh];by_cases he:s=[]
   ·have he':(s=[])=True:=eq_true he
    simp only[he',decide_true,wbe,wdd];simp(maxSteps:=999999) (disch:=first|assumption|omega) only[go_sem,simprocAttr,au,hloop,he']
   ·have he':(s=[])=False:=eq_false he
    simp only[he',decide_false,wbj,wbh];rcases wd3 (s.length<=70)with h70|h70
    ·simp only[h70,decide_true]
     simp(maxSteps:=999999) (disch:=first|assumption|omega) only[go_sem,simprocAttr,au,hloop,he']
    ·simp only[h70,decide_false]
     simp(maxSteps:=999999) (disch:=first|assumption|omega) only[go_sem,simprocAttr,au,hloop,he']
 ·have hb:=zzy HI [45,95,61,46] c (by decide)
  have hin:=z40 c [45,95,61,46];have hcb:=c.toNat_lt;have o1:zwb .u8 (c.toNat:Int) 32=((c.toNat|||32:Nat):Int):=u8_or c.toNat 32 (by omega) (by omega);unfold yo1;rw[<-hin];obtain⟨m,hm⟩:∃m,c.toNat|||32=m:=⟨_,rfl⟩;obtain⟨n,hn⟩:∃n,c.toNat=n:=⟨_,rfl⟩;rw[hm]at o1⊢;rw[hn]at o1 hb⊢;clear hin hm;cases hat:at1 c [45,95,61,46]with
  |none=>
   simp only[hat]at hb;simp only[Option.isSome_none];rcases wd3 (n<48)with a1|a1<;>rcases wd3 (57<n)with a2|a2<;>rcases wd3 (m<97)with a3|a3<;>rcases wd3 (122<m)with a4|a4
   all_goals first|(exfalso;omega)|skip
   all_goals
    simp(maxSteps:=999999) (disch:=first|assumption|omega) only[go_sem,simprocAttr,au,zgk,hc,hn,hb,o1]
  |some i=>
   simp only[hat]at hb;simp only[wc3];rcases wd3 (n<48)with a1|a1<;>rcases wd3 (57<n)with a2|a2<;>rcases wd3 (m<97)with a3|a3<;>rcases wd3 (122<m)with a4|a4
   all_goals first|(exfalso;omega)|skip
   all_goals
    simp(maxSteps:=999999) (disch:=first|assumption|omega) only[go_sem,simprocAttr,au,zgk,hc,hn,hb,o1]
 ·simp(maxSteps:=999999) (disch:=first|assumption|omega) only[go_sem,simprocAttr,au,zgk]
def getS(n:Str):List Fld->Str×Nat->Str×Nat
 |[],q=>q
 |(a,b)::l,q=>if zc0 a==zc0 n then getS n l (if q.2=0 then b else q.1,q.2+1)else getS n l q
def getU(n:Str)(F:List Fld):Str×Nat:=getS n F ([],0)
def zx2(F:List Fld):Prop:=F.length<=1000000/\∀f∈F,f.1.length<=1000000/\f.2.length<=1000000
theorem z3h{n:Str}{fin:Str×Nat->Out×St}:∀(L:List Fld)(k:Nat)(q:Str×Nat),zi8 (fun(q:Str×Nat) _(x:Fld)=>(if zc0 x.1==zc0 n then .inl (if q.2=0 then x.2 else q.1,q.2+1)else .inl q:(Str×Nat) ⊕ (Out×St))) fin q k L=fin (getS n L q)
 |[],k,q=>rfl
 |(a,b)::t,k,q=>by
  rw[zi8,getS];cases h:zc0 a==zc0 n with
  |true=>simp only[h,if_true];exact z3h t _ _
  |false=>simp only[h,wbf,if_false];exact z3h t _ _
theorem ybg(HA:zow lib)(F:List Fld)(n:Str)(hF:zx2 F)(hn:n.length<=1000000):evW code lib 72 [.slc F.length (zbi F),.flat (.string (S n))] [] []=some ([.flat (.string (S (getU n F).1)),.flat (.int .i64 ((getU n F).2:Nat))],false,[],[]):=by
 have hloop:=zl5 (body:=evC (evW code lib) big znb) (live:=[1,6,7,10,11,12]) (nb:=0) (fun(q:Str×Nat) k=>⟨[(1,.flat (.string (S n))),(6,.flat (.string (S q.1))),(7,.flat (.int .i64 (q.2:Nat))),(10,.slc F.length (zbi F)),(11,.flat (.int .i64 (F.length:Nat))),(12,.flat (.int .i64 (k:Nat)))],[],[],[]⟩) F (fun q k=>q.2<=k)
  (fun q k x=>if zc0 x.1==zc0 n then .inl (if q.2=0 then x.2 else q.1,q.2+1)else .inl q) (fun q=>(.exit 0,⟨[(6,.flat (.string (S q.1))),(7,.flat (.int .i64 (q.2:Nat)))],[],[],[]⟩)) (fun q k c hq hk hc hd=>?_) (fun _ _=>by simp only[go_sem,simprocAttr]) (fun q k x a' hq _ _ h=>by split at h<;>cases h<;>first|omega|(dsimp only;omega)) (fun _ _ x r h=>by split at h<;>cases h) (fun q _=>?_) (fun _=>by simp) ([],0) (wab _) (by have:=hF.1;unfold big;omega)
 ·rw[z3h]at hloop
  simp only[n0]at hloop;unfold getU;refine zab z13 (qa rfl) ?_;have hFl:=hF.1;generalize getS n F ([],0)=R at*;obtain⟨v,m⟩:=R;simp(maxSteps:=999999) (disch:=first|assumption|omega) only[go_sem,simprocAttr,au,hloop]
 ·obtain⟨a,b⟩:=c
  obtain⟨v,m⟩:=q;have hFl:=hF.1;have hab:=hF.2 (a,b) (wao hc);have hA:=ybf HA a n hab.1 hn;have hat:=zx1 hd;have hlen:=ztc F;have hl2:((zbi F).drop (k* 2)).length=(F.length - k)* 2:=by rw[wbc,hlen];omega
  dsimp only at hq⊢;have hlow:=fun n=>zb5 (n:=n) F
  clear hF hab hlen HA hd hc;generalize F.drop (k+1)=fr at*;generalize zbi fr=fg at*;cases hfo:zc0 a==zc0 n with
  |true=>
   rw[hfo]at hA;simp only[if_true];by_cases hm:m=0
   ·subst hm
    simp(maxSteps:=999999) (disch:=first|assumption|omega) only[go_sem,simprocAttr,au,zib,hat,hA,hlow]
   ·have hm':((m:Int)=0)=False:=by apply eq_false;omega
    simp only[hm,if_false];simp(maxSteps:=999999) (disch:=first|assumption|omega) only[go_sem,simprocAttr,au,zib,hat,hA,hm',hlow]
  |false=>
   rw[hfo]at hA;simp only[wbf,if_false];simp(maxSteps:=999999) (disch:=first|assumption|omega) only[go_sem,simprocAttr,au,zib,hat,hA,hlow]
 ·simp(maxSteps:=999999) (disch:=first|assumption|omega) only[go_sem,simprocAttr,au,zib]
end Nun
namespace Nun
open Go
inductive PRes | form | twice | ok (main:List UInt8) (out:List Fld)
theorem zmd(p:UInt8->Bool):∀l:List UInt8,(l.dropWhile p).length<=l.length
 |[]=>wab _
 |c::l=>by
  rw[weh];split
  ·exact wac (zmd p l) (by simp)
  ·exact wab _
end Nun
namespace Nun
open Go Go.RowKit Go.Proofs Go.Proofs.YtmpiobfdchlikaaGreatDoor
variable {lib:Callee}
def parX(s:Str):PRes:=
 if s=valU zbb then .ok (zfe zbb) [([99,104,97,114,115,101,116],[117,116,102,45,56])]
 else if s=valU zci then .ok (zfe zci) [([99,104,97,114,115,101,116],[117,116,102,45,56])]
 else if s=zk8 then .ok zjz [([98,111,117,110,100,97,114,121],zh7)]else .form
def y1j(lib:Callee):Prop:=∀s:Str,lib 209 [.flat (.string (S s)),.flat (.string (S [32,9]))] [] []=some ([.flat (.string (S (s.dropWhile za2)))],false,[],[])
def zuf(lib:Callee):Prop:=zf2 lib/\y1j lib
theorem z8z{l l':Callee}(h:Sub l l'):∀n,Sub (evF code l n) (evF code l' n)
 |0=>fun f a b o r h=>by cases h
 |n+1=>fun f a b o r hs=>by
  rw[zq0]at hs⊢;cases hc:code f with
  |none=>
   rw[hc]at hs;dsimp only at hs⊢;split at hs
   ·rename_i hy;rw[if_pos hy];exact zze (z8z h n) (wab _) hs
   ·rename_i hy;rw[if_neg hy];exact h _ _ _ _ _ hs
  |some k=>
   rw[hc]at hs;exact z9s (z8z h n) (wab _) hs
def kLib:Callee:=fun f args bx oc=>match args,bx,oc with
 |[.flat (.string s),.flat (.int .u8 c)],[],[]=>if f=32/\s.size<=1000/\0<=c/\c<256 then some ([.flat (.int .i64 (match at1 c.toNat.toUInt8 s.data.toList with|some i=>(i:Int)|none=>-1))],false,[],[])else none
 |[.flat (.string s),.flat (.string t)],[],[]=>if f=209/\t.data.toList=[32,9]then some ([.flat (.string (S (s.data.toList.dropWhile za2)))],false,[],[])else none
 |_,_,_=>none
theorem S_dl(s:ByteArray):S s.data.toList=s:=by simp[S]
theorem yo2(H:zuf lib):Sub kLib lib:=fun f a b o r h=>by
 unfold kLib at h;split at h
 ·rename_i s c
  split at h
  ·rename_i hc
   obtain⟨rfl,h1,h2,h3⟩:=hc;cases h;have hl:s.data.toList.length=s.size:=rfl;have k:=H.1 s.data.toList c.toNat.toUInt8 (by omega);have e2:(((c.toNat.toUInt8).toNat:Nat):Int)=c:=by
    rw[Nat.toUInt8,UInt8.toNat_ofNat'];omega
   rw[S_dl,e2]at k;exact k
  ·cases h
 ·rename_i s t
  split at h
  ·rename_i hc
   obtain⟨rfl,h1⟩:=hc;cases h;have k:=H.2 s.data.toList;rw[S_dl,<-h1,S_dl]at k;exact k
  ·cases h
 ·cases h
theorem kevB(H:zuf lib){f:FuncId}{args:List PV}{bx:zae}{oc:List Loc}{r:Ans}(h:evF yud kLib 1000 f args bx oc=some r):evW code lib f args bx oc=some r:=zp3.2 ⟨1000,by rw[ygr];exact z8z (yo2 H) 1000 _ _ _ _ _ h⟩
abbrev rdB(s:Str):Nat×List PV:=(199,[.flat (.string (S s))])
abbrev paB(a b:Str):Nat×List PV:=(114,[.flat (.string (S a)),.flat (.string (S b))])
theorem yvq{r1 r2 r3 r4 r5 k v:Str}(hv:v≠[])
 (e1:evW code lib 173 [.ptr 0 0] [rdB r1,paB [] []] []=some ([],false,[rdB r2,paB [] []],[]))
 (e2:evW code lib 174 [.ptr 0 0] [rdB r2,paB [] []] []=some ([.flat (.string (S k))],false,[rdB r3,paB [] []],[]))
 (e3:evW code lib 123 [.flat (.string (S k))] [] []=some ([.flat (.bool true)],false,[],[]))
 (e4:evW code lib 175 [.ptr 0 0,.flat (.int .u8 61)] [rdB r3,paB [] [],paB k []] []=some ([.flat (.bool true)],false,[rdB r4,paB [] [],paB k []],[]))
 (e5:evW code lib 175 [.ptr 0 0,.flat (.int .u8 34)] [rdB r4,paB [] [],paB k []] []=some ([.flat (.bool false)],false,[rdB r4,paB [] [],paB k []],[]))
 (e6:evW code lib 174 [.ptr 0 0] [rdB r4,paB [] [],paB k []] []=some ([.flat (.string (S v))],false,[rdB r5,paB [] [],paB k []],[])):
 evW code lib 176 [.ptr 0 0] [rdB r1] []=some ([.agg [.flat (.string (S k)),.flat (.string (S v))],.flat (.bool true)],false,[rdB r5],[]):=by
 refine zab zgv (qa rfl) ?_;have hv':=eq_false hv;simp(maxSteps:=999999) (disch:=first|assumption|omega) only[go_sem,simprocAttr,au,e1,e2,e3,e4,e5,e6,hv']
theorem yvr{r1 r2 r3 r4 r5 r6 k v:Str}
 (e1:evW code lib 173 [.ptr 0 0] [rdB r1,paB [] []] []=some ([],false,[rdB r2,paB [] []],[]))
 (e2:evW code lib 174 [.ptr 0 0] [rdB r2,paB [] []] []=some ([.flat (.string (S k))],false,[rdB r3,paB [] []],[]))
 (e3:evW code lib 123 [.flat (.string (S k))] [] []=some ([.flat (.bool true)],false,[],[]))
 (e4:evW code lib 175 [.ptr 0 0,.flat (.int .u8 61)] [rdB r3,paB [] [],paB k []] []=some ([.flat (.bool true)],false,[rdB r4,paB [] [],paB k []],[]))
 (e5:evW code lib 175 [.ptr 0 0,.flat (.int .u8 34)] [rdB r4,paB [] [],paB k []] []=some ([.flat (.bool true)],false,[rdB r5,paB [] [],paB k []],[]))
 (e6:evW code lib 210 [.ptr 0 0] [rdB r5,paB [] [],paB k []] []=some ([.flat (.string (S v)),.flat (.bool true)],false,[rdB r6,paB [] [],paB k []],[])):
 evW code lib 176 [.ptr 0 0] [rdB r1] []=some ([.agg [.flat (.string (S k)),.flat (.string (S v))],.flat (.bool true)],false,[rdB r6],[]):=by
 refine zab zgv (qa rfl) ?_;simp(maxSteps:=999999) (disch:=first|assumption|omega) only[go_sem,simprocAttr,au,e1,e2,e3,e4,e5,e6]
theorem ybh{s r0 r1 m k v:Str}(hm:m≠[])(h0:r0≠[])
 (e1:evW code lib 173 [.ptr 0 0] [rdB s] []=some ([],false,[rdB s],[]))
 (e2:evW code lib 174 [.ptr 0 0] [rdB s] []=some ([.flat (.string (S m))],false,[rdB r0],[]))
 (e3:evW code lib 173 [.ptr 0 0] [rdB r0] []=some ([],false,[rdB r0],[]))
 (e4:evW code lib 175 [.ptr 0 0,.flat (.int .u8 59)] [rdB r0] []=some ([.flat (.bool true)],false,[rdB r1],[]))
 (e5:evW code lib 176 [.ptr 0 0] [rdB r1] []=some ([.agg [.flat (.string (S k)),.flat (.string (S v))],.flat (.bool true)],false,[rdB []],[]))
 (e6:evW code lib 177 [.slc 0 [],.clo 178 [.ptr 1 0]] [rdB [],paB k v] []=some ([.flat (.bool false)],false,[rdB [],paB k v],[]))
 (e7:evW code lib 173 [.ptr 0 0] [rdB []] []=some ([],false,[rdB []],[]))
 (e8:evW code lib 173 [.ptr 0 0] [rdB [],paB k v] []=some ([],false,[rdB [],paB k v],[])):
 evW code lib 125 [.flat (.string (S s))] [] []=some ([.flat (.string (S m)),.slc 1 [.flat (.string (S k)),.flat (.string (S v))],.flat (.int .i64 0)],false,[],[]):=by
 refine zab zuy (qa rfl) ?_;have hm':=eq_false hm;have h0':=eq_false h0;have hb:(1<=bound)=True:=eq_true (by unfold bound;omega);simp(maxSteps:=999999) (disch:=first|assumption|omega) only[go_sem,simprocAttr,au,e1,e2,e3,e4,e5,e6,e7,e8,hm',h0',hb,zdr,zbv,zbz,zb9,zux]
theorem y1k(H:zuf lib){s m:Str}(hm:m≠[])
 (e1:evW code lib 173 [.ptr 0 0] [rdB s] []=some ([],false,[rdB s],[]))
 (e2:evW code lib 174 [.ptr 0 0] [rdB s] []=some ([.flat (.string (S m))],false,[rdB [59,32,99,104,97,114,115,101,116,61,117,116,102,45,56]],[])):
 evW code lib 125 [.flat (.string (S s))] [] []=some ([.flat (.string (S m)),.slc 1 [.flat (.string (S [99,104,97,114,115,101,116])),.flat (.string (S [117,116,102,45,56]))],.flat (.int .i64 0)],false,[],[]):=
 ybh (r1:=[32,99,104,97,114,115,101,116,61,117,116,102,45,56]) hm (by decide) e1 e2 (kevB H (by kernel_rfl)) (kevB H (by kernel_rfl)) (yvq (r2:=[99,104,97,114,115,101,116,61,117,116,102,45,56]) (r3:=[61,117,116,102,45,56]) (r4:=[117,116,102,45,56]) (by decide) (kevB H (by kernel_rfl)) (kevB H (by kernel_rfl)) (kevB H (by kernel_rfl)) (kevB H (by kernel_rfl)) (kevB H (by kernel_rfl)) (kevB H (by kernel_rfl))) (kevB H (by kernel_rfl)) (kevB H (by kernel_rfl)) (kevB H (by kernel_rfl))
theorem y3j(H:zuf lib):evW code lib 125 [.flat (.string (S zk8))] [] []=some ([.flat (.string (S zjz)),.slc 1 [.flat (.string (S [98,111,117,110,100,97,114,121])),.flat (.string (S zh7))],.flat (.int .i64 0)],false,[],[]):=
 ybh (r0:=[59,32,98,111,117,110,100,97,114,121,61,34,61,95,110,117,110,99,105,111,34]) (r1:=[32,98,111,117,110,100,97,114,121,61,34,61,95,110,117,110,99,105,111,34]) (by decide) (by decide) (kevB H (by kernel_rfl)) (kevB H (by kernel_rfl)) (kevB H (by kernel_rfl)) (kevB H (by kernel_rfl)) (yvr (r2:=[98,111,117,110,100,97,114,121,61,34,61,95,110,117,110,99,105,111,34]) (r3:=[61,34,61,95,110,117,110,99,105,111,34]) (r4:=[34,61,95,110,117,110,99,105,111,34]) (r5:=[61,95,110,117,110,99,105,111,34]) (kevB H (by kernel_rfl)) (kevB H (by kernel_rfl)) (kevB H (by kernel_rfl)) (kevB H (by kernel_rfl)) (kevB H (by kernel_rfl)) (kevB H (by kernel_rfl))) (kevB H (by kernel_rfl)) (kevB H (by kernel_rfl)) (kevB H (by kernel_rfl))
theorem y1l(H:zuf lib)(s m:Str)(l:List Fld)(hs:s.length<=10000)(h:parX s=.ok m l):evW code lib 125 [.flat (.string (S s))] [] []=some ([.flat (.string (S m)),.slc l.length (zbi l),.flat (.int .i64 0)],false,[],[]):=by
 unfold parX at h;split at h
 ·rename_i e;cases h;rw[e];exact y1k H (by decide) (kevB H (by kernel_rfl)) (kevB H (by kernel_rfl))
 split at h
 ·rename_i e;cases h;rw[e];exact y1k H (by decide) (kevB H (by kernel_rfl)) (kevB H (by kernel_rfl))
 split at h
 ·rename_i e;cases h;rw[e];exact y3j H
 ·cases h
theorem zox{v m:Str}{l:List Fld}(h:parX v=.ok m l)(hv:v.length<=10000):zx2 l/\m.length<=v.length:=by
 have ok:∀a b:Str,a.length<=1000000->b.length<=1000000->zx2 [(a,b)]:=fun a b ha hb=>⟨by simp,fun f hf=>by rw[wbn.1 hf];exact⟨ha,hb⟩⟩
 unfold parX at h;split at h
 ·rename_i e;cases h;rw[e];exact⟨ok _ _ (by decide) (by decide),by decide⟩
 split at h
 ·rename_i e;cases h;rw[e];exact⟨ok _ _ (by decide) (by decide),by decide⟩
 split at h
 ·rename_i e;cases h;rw[e];exact⟨ok _ _ (by decide) (by decide),by decide⟩
 ·cases h
def zx3(lib:Callee):Prop:=∀s old new:Str,s.length<=1000000->1<=old.length->new.length<=10->lib 82 [.flat (.string (S s)),.flat (.string (S old)),.flat (.string (S new))] [] []=some ([.flat (.string (S (Lib.replaceAll s old new)))],false,[],[])
theorem y1m(H:zx3 lib)(s old new:Str)(hs:s.length<=1000000)(ho:1<=old.length)(hn:new.length<=10):evW code lib 82 [.flat (.string (S s)),.flat (.string (S old)),.flat (.string (S new))] [] []=some ([.flat (.string (S (Lib.replaceAll s old new)))],false,[],[]):=zde (by decide) (by kernel_rfl) (H s old new hs ho hn)
theorem ybi(old new:Str)(h:new.length<=old.length):∀(n:Nat)(s:Str),(Lib.replaceK old new n s).length<=s.length
 |0,s=>wab _
 |n+1,s=>by
  rw[Lib.replaceK];split
  ·exact wab _
  ·rename_i hne
   have h1:=Lib.index_ge s old;have h2:Lib.index s old≠-1:=by simpa using hne
   have h3:=Lib.index_room s old (by omega);have h4:=ybi old new h n (s.drop ((Lib.index s old).toNat+old.length));simp only[wb0,wa2,wbc]at h4⊢;omega
theorem yvs(s old new:Str)(h:new.length<=old.length):(Lib.replaceAll s old new).length<=s.length:=by
 unfold Lib.replaceAll Lib.replace;split
 ·exact wab _
 ·exact ybi _ _ h _ _
def yo3(lib:Callee):Prop:=∀s:Str,s.length<=1000000->lib 129 [.flat (.string (S s))] [] []=some ((match decL s with|some t=>[.flat (.string (S t)),.flat (.int .i64 0)]|none=>[.flat (.string (S [])),.flat (.int .i64 7)]),false,[],[])
theorem y3k(H:yo3 lib)(s:Str)(h:s.length<=1000000):evW code lib 129 [.flat (.string (S s))] [] []=some ((match decL s with|some t=>[.flat (.string (S t)),.flat (.int .i64 0)]|none=>[.flat (.string (S [])),.flat (.int .i64 7)]),false,[],[]):=zde (by decide) (by kernel_rfl) (H s h)
def z6k:Str:=[55,98,105,116]
def sQp:Str:=[113,117,111,116,101,100,45,112,114,105,110,116,97,98,108,101]
def ydn(s c:Str):Option Str:=if c=sQp then decL s else none
theorem yvt(HD:yo3 lib)(s c t:Str)(hs:s.length<=1000000)(h:ydn s c=some t):evW code lib 75 [.flat (.string (S s)),.flat (.string (S c))] [] []=some ([.flat (.string (S t))],false,[],[]):=by
 have hm:=zkm (lib:=lib) 7;have h7:((7:Nat):Int)=7:=rfl;rw[h7]at hm;unfold ydn at h;refine zab zur (qa rfl) ?_;split at h
 case isFalse=>cases h
 rename_i h2;have e:=y3k HD s hs;rw[h]at e;dsimp only at e;have h1':(c=[55,98,105,116])=False:=eq_false (by rw[h2];decide);have h2':(c=[113,117,111,116,101,100,45,112,114,105,110,116,97,98,108,101])=True:=eq_true h2;simp(maxSteps:=999999) (disch:=first|assumption|omega) only[go_sem,simprocAttr,au,e,h1',h2',hm]
def zug(lib:Callee):Prop:=∀s w:Str,s.length<=1000000000->lib 79 [.flat (.string (S s)),.flat (.string (S w))] [] []=some ([.flat (.string (S (Lib.cut s w).1)),.flat (.string (S (Lib.cut s w).2.1)),.flat (.bool (Lib.cut s w).2.2)],false,[],[])
theorem z80(H:zug lib)(s w:Str)(h:s.length<=1000000000):evW code lib 79 [.flat (.string (S s)),.flat (.string (S w))] [] []=some ([.flat (.string (S (Lib.cut s w).1)),.flat (.string (S (Lib.cut s w).2.1)),.flat (.bool (Lib.cut s w).2.2)],false,[],[]):=zde (by decide) (by kernel_rfl) (H s w h)
def sCt:Str:=[99,111,110,116,101,110,116,45,116,121,112,101]
def sCte:Str:=[99,111,110,116,101,110,116,45,116,114,97,110,115,102,101,114,45,101,110,99,111,100,105,110,103]
def z0u:Str:=[98,111,117,110,100,97,114,121]
def yqo:Str:=[116,101,120,116,47,112,108,97,105,110]
def yiy:List Fld->Str->Str
 |[],m=>m
 |(a,b)::l,m=>yiy l (if zc0 a==zc0 z0u then b else m)
theorem z6l{fin:Str->Out×St}:∀(L:List Fld)(k:Nat)(m:Str),zi8 (fun(m:Str) _(x:Fld)=>(.inl (if zc0 x.1==zc0 z0u then x.2 else m):Str ⊕ (Out×St))) fin m k L=fin (yiy L m)
 |[],k,q=>rfl
 |(a,b)::t,k,q=>by rw[zi8,yiy];exact z6l t _ _
theorem yiz(HA:zow lib)(F:List Fld)(m0:Str)(hF:zx2 F):zcn (evC (evW code lib) big zgj) [8,11,46,47,48] 0 big ⟨[(8,.flat (.string (S m0))),(11,.flat (.string (S []))),(46,.slc F.length (zbi F)),(47,.flat (.int .i64 (F.length:Nat))),(48,.flat (.int .i64 0))],[],[],[]⟩=some (.exit 0,⟨[(8,.flat (.string (S m0))),(11,.flat (.string (S (yiy F []))))],[],[],[]⟩):=by
 have hloop:=z98 (body:=evC (evW code lib) big zgj) (live:=[8,11,46,47,48]) (nb:=0) (fun(m:Str) k=>⟨[(8,.flat (.string (S m0))),(11,.flat (.string (S m))),(46,.slc F.length (zbi F)),(47,.flat (.int .i64 (F.length:Nat))),(48,.flat (.int .i64 (k:Nat)))],[],[],[]⟩) F (fun _ _=>True)
  (fun m k x=>.inl (if zc0 x.1==zc0 z0u then x.2 else m)) (fun m=>(.exit 0,⟨[(8,.flat (.string (S m0))),(11,.flat (.string (S m)))],[],[],[]⟩)) (fun m k c _ hk hc hd=>.inl ?_) (fun m _=>⟨?_,by simp⟩) [] trivial (by have:=hF.1;unfold big;omega)
 ·rw[z6l]at hloop
  simp only[n0]at hloop;exact hloop
 ·obtain⟨a,b⟩:=c
  have hFl:=hF.1;have hab:=hF.2 (a,b) (wao hc);have hA:=ybf HA a z0u hab.1 (by decide);unfold z0u at hA;have hat:=zx1 hd;have hlen:=ztc F;have hl2:((zbi F).drop (k* 2)).length=(F.length - k)* 2:=by rw[wbc,hlen];omega
  have hlow:=fun n=>zb5 (n:=n) F
  clear hF hab hlen HA hd hc;generalize F.drop (k+1)=fr at*;generalize zbi fr=fg at*;dsimp only;unfold z0u;cases hfo:zc0 a==zc0 [98,111,117,110,100,97,114,121]with
  |true=>
   rw[hfo]at hA;refine⟨_,⟨[(8,.flat (.string (S m0))),(11,.flat (.string (S b))),(46,.slc F.length (zbi F)),(47,.flat (.int .i64 (F.length:Nat))),(48,.flat (.int .i64 ((k+1:Nat):Nat)))],[],[],[]⟩,rfl,?_,?_,trivial⟩
   ·simp(maxSteps:=999999) (disch:=first|assumption|omega) only[go_sem,simprocAttr,au,zhu,hat,hA,hlow]
   ·simp(maxSteps:=999999) (disch:=first|assumption|omega) only[go_sem,simprocAttr,au,hlow]
  |false=>
   rw[hfo]at hA;refine⟨_,⟨[(8,.flat (.string (S m0))),(11,.flat (.string (S m))),(46,.slc F.length (zbi F)),(47,.flat (.int .i64 (F.length:Nat))),(48,.flat (.int .i64 ((k+1:Nat):Nat)))],[],[],[(114,[.flat (.string (S a)),.flat (.string (S b))])]⟩,rfl,?_,?_,trivial⟩
   ·simp(maxSteps:=999999) (disch:=first|assumption|omega) only[go_sem,simprocAttr,au,zhu,hat,hA,hlow]
   ·simp(maxSteps:=999999) (disch:=first|assumption|omega) only[go_sem,simprocAttr,au,hlow]
 ·simp(maxSteps:=999999) (disch:=first|assumption|omega) only[go_sem,simprocAttr,au,zhu]
def zyx(F:List Fld):Except Nat (Str×Str):=
 if(getU sCt F).2<2/\(getU sCte F).2<2 then
  if(getU sCt F).2=0 then .ok (yqo,[])else
  match parX (getU sCt F).1 with
  | .form=>.error 7
  | .twice=>.error 9
  | .ok m l=>if(Lib.cut m [47]).2.2=true/\(Lib.cut m [47]).1≠[]/\(Lib.cut m [47]).2.1≠[]/\at1 47 (Lib.cut m [47]).2.1=none then .ok (zc0 m,yiy l [])else .error 7
 else .error 9
theorem yi0(HA:zow lib)(HF:z3g lib)(HP:zuf lib)(HC:zug lib)(HI:zf2 lib)(F:List Fld)(ty mk:Str)(hF:zx2 F)(hv:(getU sCt F).1.length<=10000)(hl:∀m l,parX (getU sCt F).1=.ok m l->zx2 l/\m.length<=10000)(h:zyx F=.ok (ty,mk)):
 evW code lib 71 [.slc F.length (zbi F)] [] []=some ([.flat (.string (S ty)),.flat (.string (S mk))],false,[],[]):=by
 have g1:=ybg HA F sCt hF (by decide);have g2:=ybg HA F sCte hF (by decide);have hm0:=zkm (lib:=lib) 0;have hm7:=zkm (lib:=lib) 7;have hm9:=zkm (lib:=lib) 9;have h7:((7:Nat):Int)=7:=rfl;have h9:((9:Nat):Int)=9:=rfl;rw[h7]at hm7;rw[h9]at hm9;rw[n0]at hm0;have hnp:=zcu F;unfold zyx at h;unfold sCt at g1 h hl hv;unfold sCte at g2 h;obtain⟨v,hv'⟩:∃v,getU [99,111,110,116,101,110,116,45,116,121,112,101] F=v:=⟨_,rfl⟩;obtain⟨u,hu'⟩:∃v,getU [99,111,110,116,101,110,116,45,116,114,97,110,115,102,101,114,45,101,110,99,111,100,105,110,103] F=v:=⟨_,rfl⟩;rw[hv']at g1 h hl hv;rw[hu']at g2 h;obtain⟨v,n⟩:=v;obtain⟨u,k⟩:=u;dsimp only at g1 g2 h hl hv;split at h
 case isFalse=>cases h
 rename_i hnk;obtain⟨hn,hk⟩:=hnk;refine zab zuq (qa rfl) ?_;split at h
 ·rename_i hn0
  subst hn0;cases h;unfold yqo;clear hl hF hv;simp(maxSteps:=999999) (disch:=first|assumption|omega) only[go_sem,simprocAttr,au,g1,g2,hm9,hnp]
 ·rename_i hn0
  have hn0':((n:Int)=0)=False:=by apply eq_false;omega
  cases hpar:parX v with
  |form=>rw[hpar]at h;cases h
  |twice=>rw[hpar]at h;cases h
  |ok m l=>
   have hp:=y1l HP v m l hv hpar;rw[hpar]at h;dsimp only at h;obtain⟨hsl,hml⟩:=hl m l hpar;have hlo:=yiz HA l m hsl;have hcut:=z80 HC m [47] (by omega);have hfo:=z8y HF m (by omega);have hnpl:=zcu l;have hll:=hsl.1;split at h
   case isFalse=>cases h
   rename_i hc;obtain⟨c1,c2,c3,c4⟩:=hc;cases h;have hbl:(Lib.cut m [47]).2.1.length<=m.length:=by
    unfold Lib.cut;split
    ·simp only[wbc];omega
    ·simp
   obtain⟨q,hq⟩:∃q,Lib.cut m [47]=q:=⟨_,rfl⟩;rw[hq]at hcut c1 c2 c3 c4 hbl;obtain⟨x,y,z⟩:=q;dsimp only at hcut c1 c2 c3 c4 hbl;have hidx:=zzy HI y 47 (by omega);rw[c4]at hidx;have e47:((UInt8.toNat 47:Nat):Int)=47:=rfl;rw[e47]at hidx;dsimp only at hidx;subst c1;have c2':=eq_false c2;have c3':=eq_false c3;clear hF hsl hl hq hpar HA HF HP HC HI;simp(maxSteps:=999999) (disch:=first|assumption|omega) only[go_sem,simprocAttr,au,g1,g2,hm0,hm7,hm9,hnp,hnpl,hn0',hp,hlo,hcut,hfo,hidx,c2',c3']
def ybj(lib:Callee):Prop:=∀s w:Str,s.length<=1000000000->lib 59 [.flat (.string (S s)),.flat (.string (S w))] [] []=some ([.flat (.int .i64 (Lib.index s w))],false,[],[])
theorem y1n(H:ybj lib)(s w:Str)(h:s.length<=1000000000):evW code lib 59 [.flat (.string (S s)),.flat (.string (S w))] [] []=some ([.flat (.int .i64 (Lib.index s w))],false,[],[]):=zde (by decide) (by kernel_rfl) (H s w h)
def zkn(lib:Callee):Prop:=∀s w:Str,s.length<=1000000000->lib 132 [.flat (.string (S s)),.flat (.string (S w))] [] []=some ([.flat (.string (S (if w.isPrefixOf s then s.drop w.length else s))),.flat (.bool (w.isPrefixOf s))],false,[],[])
theorem yi1(H:zkn lib)(s w:Str)(h:s.length<=1000000000):evW code lib 132 [.flat (.string (S s)),.flat (.string (S w))] [] []=some ([.flat (.string (S (if w.isPrefixOf s then s.drop w.length else s))),.flat (.bool (w.isPrefixOf s))],false,[],[]):=zde (by decide) (by kernel_rfl) (H s w h)
theorem z3i(H:zcz lib)(s p:Str)(hs:s.length<=1000000000)(hp:p.length<=1000000000):evW code lib 74 [.flat (.string (S s)),.flat (.string (S p))] [] []=some ([.flat (.bool (p.isPrefixOf s))],false,[],[]):=zde (by decide) (by kernel_rfl) (H s p hs hp)
def boT(s line:Str)(q:List Str×Nat×Nat):(List Str×Nat×Nat) ⊕ Option (List Str):=
 if Lib.index (s.drop q.2.2) line=-1 then .inr none else
 let at_:=q.2.2+(Lib.index (s.drop q.2.2) line).toNat
 let behind:=s.drop (at_+line.length)
 if([45,45,13,10]:Str).isPrefixOf behind then(if behind=[45,45,13,10]then .inr (some (q.1++[(s.take at_).drop q.2.1]))else .inr none)
 else if([13,10]:Str).isPrefixOf behind then .inl (q.1++[(s.take at_).drop q.2.1],at_+line.length+2,at_+line.length+2)
 else .inl (q.1,q.2.1,at_+1)
def zc6(mark:Str):Str:=[13,10,45,45]++mark
def zme(s mark:Str):Option (List Str):=
 if(zc6 mark++[13,10]).isPrefixOf ([13,10]++s)then runS (boT (([13,10]++s).drop (zc6 mark++[13,10]).length) (zc6 mark)) none (s.length+1) ([],0,0)else none
theorem yo4{s w:Str}{n:Nat}(h:Lib.index s w≠-1):(Lib.index s w).toNat+w.length<=s.length/\Lib.index s w=((Lib.index s w).toNat:Int):=by
 have h1:=Lib.index_ge s w;have h2:=Lib.index_room s w (by omega);exact⟨by omega,by omega⟩
theorem ydo(HN:ybj lib)(HC:zkn lib)(HP:zcz lib)(s mark:Str)(out:List Str)(hs:s.length<=100000000)(hm:mark.length<=1000000)(h:zme s mark=some out)(BX:List Str->zae)(oc:List (Nat×Nat))(b p1 p2 nb:Nat)
 (h1:∀a,(BX a)[p1]?=some (9,[.flat (.string (S mark))])) (h2:∀a,(BX a)[p2]?=some (9,[.flat (.string (S s))])) (hlen:∀a,(BX a).length=nb) (hoc:∀q∈oc,q.1<nb)
 (hy:∀a x,a.length<=s.length->evW code lib yldF [.yld b,.flat (.string (S x))] (BX a) (cl oc)=some ([.flat (.bool true)],false,BX (a++[x]),cl oc)):
 evW code lib 131 [.yld b,.ptr p1 0,.ptr p2 0] (BX []) (cl oc)=some ([],false,BX out,cl oc):=by
 have hbv:bound=4294967296:=rfl;unfold zme at h;split at h
 case isFalse=>cases h
 rename_i hpre;have hll:(zc6 mark).length=mark.length+4:=by unfold zc6;simp
 have c1:=yi1 HC ([13,10]++s) (zc6 mark++[13,10]) (by simp;omega);rw[if_pos hpre,hpre]at c1;have hpl:=zgo hpre;simp only[wb0,waf,wdb]at hpl;have hrl:(([13,10]++s).drop (zc6 mark++[13,10]).length).length<=s.length:=by simp only[wbc,wb0,waf,wdb];omega
 obtain⟨rest,hrest⟩:∃r,([13,10]++s).drop (zc6 mark++[13,10]).length=r:=⟨_,rfl⟩;rw[hrest]at h c1 hrl;simp only[wai,wa5]at c1;obtain⟨line,hline⟩:∃l,zc6 mark=l:=⟨_,rfl⟩;have e1:S (13::10::45::45::mark)=S line:=by rw[<-hline];rfl
 rw[hline]at h c1 hll;have hm0:=zkm (lib:=lib) 7;have h7:((7:Nat):Int)=7:=rfl;rw[h7]at hm0
 have hloop:=zfd (body:=evC (evW code lib) big zfv) (live:=[0,4,5,7,8]) (nb:=nb) (fun q:List Str×Nat×Nat=>(⟨[(0,.yld b),(4,.flat (.string (S line))),(5,.flat (.string (S rest))),(7,.flat (.int .i64 (q.2.1:Nat))),(8,.flat (.int .i64 (q.2.2:Nat)))],cl oc,[],BX q.1⟩:St))
  (fun q=>q.2.1<=q.2.2/\q.2.2<=rest.length/\q.1.length<=q.2.2/\∃n,rest.length+1<=n+q.2.2/\runS (boT rest line) none n q=some out) (fun q=>rest.length - q.2.2)
  (fun q=>(.ret,⟨[],cl oc,[],BX out⟩)) (fun q hq=>?_) (n:=big) (a:=([],0,0)) ⟨wab _,wa7 _,wab _,s.length+1,by dsimp only;omega,h⟩ (by unfold big;dsimp only;omega)
 ·simp only[n0]at hloop
  have g1:=h1 [];have g2:=h2 [];have g3:=hlen [];have g4:=hlen out;have g5:=zah oc hoc;refine zab zo3 (qa rfl) ?_;have e2:S (line++[13,10])=S (line++[13,10]):=rfl;clear h;simp(maxSteps:=999999) (disch:=first|assumption|omega) only[go_sem,simprocAttr,au,g1,g2,g3,g4,e1,c1,hm0,zal,zak,zaf,zap,zaj,zat g3,zat g4,g5,hloop]
 ·obtain⟨a,fr,at_⟩:=q
  obtain⟨k1,k2,k3,n,k4,k5⟩:=hq;dsimp only at k1 k2 k3 k4 k5⊢;cases n with
  |zero=>omega
  |succ n=>
   have i1:=y1n HN (rest.drop at_) line (by rw[wbc];omega);by_cases hno:Lib.index (rest.drop at_) line=-1
   ·rw[zca (r:=none) (by unfold boT;dsimp only;rw[if_pos hno])]at k5;cases k5
   ·obtain⟨r1,r2⟩:=yo4 (n:=0) hno
    rw[wbc]at r1;obtain⟨i,hi⟩:∃i,(Lib.index (rest.drop at_) line).toNat=i:=⟨_,rfl⟩;rw[hi]at r1 r2;rw[r2]at i1
    have hst:boT rest line (a,fr,at_)=(if([45,45,13,10]:Str).isPrefixOf (rest.drop (at_+i+line.length))then(if rest.drop (at_+i+line.length)=[45,45,13,10]then .inr (some (a++[(rest.take (at_+i)).drop fr]))else .inr none)
     else if([13,10]:Str).isPrefixOf (rest.drop (at_+i+line.length))then .inl (a++[(rest.take (at_+i)).drop fr],at_+i+line.length+2,at_+i+line.length+2)else .inl (a,fr,at_+i+1)):=by
     unfold boT;dsimp only;rw[if_neg hno,hi]
    have tn:((at_:Int)+(i:Int)+(line.length:Int)).toNat=at_+i+line.length:=by omega
    have g1:=hlen a;have g5:=zah oc hoc;have p1':=z3i HP (rest.drop (at_+i+line.length)) [45,45,13,10] (by rw[wbc];omega) (by decide);have p2':=z3i HP (rest.drop (at_+i+line.length)) [13,10] (by rw[wbc];omega) (by decide);have tk:rest.take rest.length=rest:=wds;have hyy:=hy a ((rest.take (at_+i)).drop fr) (by omega);have g2:=hlen (a++[(rest.take (at_+i)).drop fr]);cases hp1:([45,45,13,10]:Str).isPrefixOf (rest.drop (at_+i+line.length))with
    |true=>
     rw[hp1]at hst p1';simp only[if_true]at hst;by_cases heq:rest.drop (at_+i+line.length)=[45,45,13,10]
     ·rw[if_pos heq]at hst
      rw[zca hst]at k5;simp only[war]at k5;left;refine⟨_,_,?_,(by simp),rfl⟩;have hq:=eq_true heq;rw[<-k5];clear hst k5 k4 h hy;simp(maxSteps:=999999) (disch:=first|assumption|omega) only[go_sem,simprocAttr,au,zfc,tk,tn,i1,hm0,p1',hq,hyy,g1,g2,zal,zak,zaf,zap,zaj,zat g1,zat g2,g5,zag]
     ·rw[if_neg heq]at hst
      rw[zca hst]at k5;cases k5
    |false=>
     rw[hp1]at hst p1';simp only[wbf,if_false]at hst;cases hp2:([13,10]:Str).isPrefixOf (rest.drop (at_+i+line.length))with
     |true=>
      rw[hp2]at hst p2';simp only[if_true]at hst;rw[zep hst]at k5;right;have hl2:=zgo hp2;rw[wbc]at hl2;simp only[waf,wdb]at hl2;refine⟨⟨[(0,.yld b),(4,.flat (.string (S line))),(5,.flat (.string (S rest))),(7,.flat (.int .i64 ((at_+i+line.length+2:Nat):Nat))),(8,.flat (.int .i64 ((at_+i+line.length+2:Nat):Nat)))],cl oc,[],BX (a++[(rest.take (at_+i)).drop fr])⟩,(a++[(rest.take (at_+i)).drop fr],at_+i+line.length+2,at_+i+line.length+2),?_,?_,⟨wab _,by dsimp only;omega,by simp only[wb0,waf,wdb];omega,n,by dsimp only;omega,k5⟩,by dsimp only;omega,rfl⟩
      ·clear hst k5 k4 h hy
       simp(maxSteps:=999999) (disch:=first|assumption|omega) only[go_sem,simprocAttr,au,zfc,tk,tn,i1,hm0,p1',p2',hyy,g1,g2,zal,zak,zaf,zap,zaj,zat g1,zat g2,g5,zag]
      ·simp(maxSteps:=999999) (disch:=first|assumption|omega) only[go_sem,simprocAttr,au,g2,zal,zak,zaf,zap,zaj,zat g2,g5]
     |false=>
      rw[hp2]at hst p2';simp only[wbf,if_false]at hst;rw[zep hst]at k5;right;refine⟨⟨[(0,.yld b),(4,.flat (.string (S line))),(5,.flat (.string (S rest))),(7,.flat (.int .i64 (fr:Nat))),(8,.flat (.int .i64 ((at_+i+1:Nat):Nat)))],cl oc,[],BX a⟩,(a,fr,at_+i+1),?_,?_,⟨by dsimp only;omega,by dsimp only;omega,by dsimp only;omega,n,by dsimp only;omega,k5⟩,by dsimp only;omega,rfl⟩
      ·clear hst k5 k4 h hy
       simp(maxSteps:=999999) (disch:=first|assumption|omega) only[go_sem,simprocAttr,au,zfc,tk,tn,i1,hm0,p1',p2',g1,zal,zak,zaf,zap,zaj,zat g1,g5,zag]
      ·simp(maxSteps:=999999) (disch:=first|assumption|omega) only[go_sem,simprocAttr,au,g1,zal,zak,zaf,zap,zaj,zat g1,g5]
theorem z0v(s mark:Str)(bx:zae)(oc:List (Nat×Nat))(h:∀q∈oc,q.1<bx.length):evW code lib 77 [.flat (.string (S s)),.flat (.string (S mark))] bx (cl oc)=some ([.clo 131 [.ptr (bx.length+1) 0,.ptr bx.length 0]],false,bx++[(9,[.flat (.string (S s))]),(9,[.flat (.string (S mark))])],cl oc):=by
 refine zab zrp (qa rfl) ?_;have h3:¬(bx.length+1+1=bx.length):=by omega
 have h4:zbm (bx.length+1+1) (cl oc)=cl oc:=zah _ fun q hq=>by have:=h q hq;omega
 have h5:bx.length+1+1=bx.length+2:=rfl;simp only[go_sem,simprocAttr,zal,zak,zaf,zap,wb0,h3,Nat.lt_irrefl,h4,wa4]
def zn8(lib:Callee):Prop:=∀s w:Str,s.length<=1000000000->lib 133 [.flat (.string (S s)),.flat (.string (S w))] [] []=some ([.flat (.string (S (if w.isSuffixOf s then s.take (s.length - w.length)else s))),.flat (.bool (w.isSuffixOf s))],false,[],[])
theorem yi2(H:zn8 lib)(s w:Str)(h:s.length<=1000000000):evW code lib 133 [.flat (.string (S s)),.flat (.string (S w))] [] []=some ([.flat (.string (S (if w.isSuffixOf s then s.take (s.length - w.length)else s))),.flat (.bool (w.isSuffixOf s))],false,[],[]):=zde (by decide) (by kernel_rfl) (H s w h)
def zx4(lib:Callee):Prop:=∀s:Str,s.length<=1000000->lib 139 [.flat (.string (S s))] [] []=some ((match zhn s with|some t=>[.flat (.string (S t)),.flat (.int .i64 0)]|none=>[.flat (.string (S [])),.flat (.int .i64 7)]),false,[],[])
theorem y1o(H:zx4 lib)(s:Str)(h:s.length<=1000000):evW code lib 139 [.flat (.string (S s))] [] []=some ((match zhn s with|some t=>[.flat (.string (S t)),.flat (.int .i64 0)]|none=>[.flat (.string (S [])),.flat (.int .i64 7)]),false,[],[]):=zde (by decide) (by kernel_rfl) (H s h)
theorem ybk(n:Nat):∀l t:Str,l.length<=n->zhn l=some t->t.length<=l.length:=by
 induction n with
 |zero=>
  intro l t h hd;have:l=[]:=qz (by omega);subst this;cases hd;simp
 |succ n ih=>
  intro l t h hd;by_cases h4:4<=l.length
  ·rw[z0e l h4]at hd
   split at hd
   ·obtain⟨x,h1,rfl⟩:=qm hd
    have h2:=ih (l.drop 4) x (by rw[wbc];omega) h1;have h3:=z5w (l.take 4) (l.drop 4).isEmpty;rw[wbc]at h2;rw[wb0];omega
   ·cases hd
  ·by_cases h0:l.length=0
   ·have:l=[]:=qz h0
    subst this;cases hd;simp
   ·rw[z5v _ l (wab _) (by omega)]at hd;cases hd
theorem ybl(w:Str):(zh1 w).1.length<=w.length:=by
 unfold zh1;split
 ·split
  ·rename_i t ht
   split
   ·have:=ybk _ _ _ (wab _) ht
    simp only[wa2,wbc]at this;dsimp only;omega
   ·exact wab _
  ·exact wab _
 ·exact wab _
theorem ydp(HP:zkn lib)(HS:zn8 lib)(HD:zx4 lib)(s:Str)(hs:s.length<=1000000):evW code lib 83 [.flat (.string (S s))] [] []=some ([.flat (.string (S (zh1 s).1)),.flat (.bool (zh1 s).2)],false,[],[]):=by
 have e1:=yi1 HP s zd1 (by omega);have e2:=fun t(h:t.length<=1000000000)=>yi2 HS t [63,61] h
 have e3:=fun t h=>y1o HD t h
 have e4:=fun t(h:t.length<=1000000)=>yp3 (lib:=lib) t (by unfold Sm;omega)
 refine zab zsr (qa rfl) ?_;unfold zh1;have hf:zd1.length=10:=rfl;rw[hf]at e1;by_cases a:zd1.isPrefixOf s=true
 ·rw[if_pos a,a]at e1
  rw[a,wbh];have hl:(s.drop 10).length<=s.length:=by rw[wbc];omega
  obtain⟨x,hx⟩:∃x,s.drop 10=x:=⟨_,rfl⟩;rw[hx]at e1 hl⊢;have e2:=e2 x (by omega);by_cases b:([63,61]:Str).isSuffixOf x=true
  ·rw[if_pos b,b]at e2
   rw[if_pos b];have hl2:(x.take (x.length - 2)).length<=x.length:=by rw[wa2];omega
   have e3:=e3 (x.take (x.length - 2)) (by omega);have hk:([63,61]:Str).length=2:=rfl;rw[hk]at e2;obtain⟨y,hy⟩:∃y,x.take (x.length - 2)=y:=⟨_,rfl⟩;rw[hy]at e2 e3 hl2⊢;cases hd:zhn y with
   |none=>
    rw[hd]at e3;unfold zd1 at e1;simp(maxSteps:=999999) (disch:=first|assumption|omega) only[go_sem,simprocAttr,au,e1,e2,e3]
   |some t=>
    have ht:=ybk _ _ _ (wab _) hd;rw[hd]at e3;have e4:=e4 t (by omega);unfold zd1 at e1;dsimp only at e3⊢;rcases web (isU t)with h|h
    ·rw[h]at e4⊢
     simp(maxSteps:=999999) (disch:=first|assumption|omega) only[go_sem,simprocAttr,au,e1,e2,e3,e4]
    ·rw[h]at e4⊢
     simp(maxSteps:=999999) (disch:=first|assumption|omega) only[go_sem,simprocAttr,au,e1,e2,e3,e4]
  ·have b':([63,61]:Str).isSuffixOf x=false:=wdn.2 b
   rw[if_neg b,b']at e2;rw[if_neg b];unfold zd1 at e1;simp(maxSteps:=999999) (disch:=first|assumption|omega) only[go_sem,simprocAttr,au,e1,e2]
 ·have a':zd1.isPrefixOf s=false:=wdn.2 a
  rw[if_neg a,a']at e1;rw[a',wdd];have e2:=e2 s (by omega);unfold zd1 at e1;simp(maxSteps:=999999) (disch:=first|assumption|omega) only[go_sem,simprocAttr,au,e1,e2]
theorem yi3(c:UInt8):evW code lib 135 [.flat (.int .u8 c.toNat)] [] []=some ([.flat (.bool (za2 c))],false,[],[]):=by
 refine zab zw1 (qa rfl) ?_;have e:za2 c=(decide (c.toNat=32)||decide (c.toNat=9)):=(by decide+kernel:∀c:UInt8,za2 c=(decide (c.toNat=32)||decide (c.toNat=9))) c;rw[e];obtain⟨x,hx⟩:∃x,c.toNat=x:=⟨_,rfl⟩;rw[hx];by_cases h1:x=32
 ·subst h1
  simp(maxSteps:=999999) (disch:=first|assumption|omega) only[go_sem,simprocAttr,au]
 ·by_cases h2:x=9
  ·subst h2
   simp(maxSteps:=999999) (disch:=first|assumption|omega) only[go_sem,simprocAttr,au]
  ·have h1':=eq_false h1
   have h2':=eq_false h2;simp only[h1',h2',decide_false,wdw];simp(maxSteps:=999999) (disch:=first|assumption|omega) only[go_sem,simprocAttr,au,h1',h2']
def skB(l:Str)(k:Nat):Bool:=zav l [13,10] k&&(match l[k+2]? with|some d=>za2 d|none=>false)
def lnT(l:Str)(q:Str×Nat):(Str×Nat) ⊕ Option Str:=
 match l[q.2]? with
 |none=>.inr (some q.1)
 |some c=>if skB l q.2 then .inl (q.1,q.2+2)
  else if c=13\/c=10 then .inr none else .inl (q.1++[c],q.2+1)
def lnU(l:Str):Option Str:=runS (lnT l) none (l.length+1) ([],0)
theorem yi4(l:Str)(h:∀c∈l,c≠13/\c≠10):lnU l=some l:=by
 have hg:∀(n k:Nat),k<=l.length->l.length - k<n->runS (lnT l) none n (l.take k,k)=some l:=by
  intro n
  induction n with
  |zero=>intro k _ h;omega
  |succ n ih=>
   intro k hk hn;by_cases hlt:k<l.length
   ·have hg:l[k]?=some l[k]:=qe hlt
    have hc:=h l[k] (wd5 hlt);have hb:zav l [13,10] k=false:=by
     unfold zav;rw[wcm hlt];have:((13:UInt8)==l[k])=false:=by rw[beq_eq_false_iff_ne];exact hc.1.symm
     simp[List.isPrefixOf,this]
    have ht:lnT l (l.take k,k)=.inl (l.take (k+1),k+1):=by
     unfold lnT;simp only[skB,hg,hb,wdd,wbf,if_false,hc.1,hc.2,or_self];rw[wa0 hlt]
    rw[zep ht];exact ih (k+1) (by omega) (by omega)
   ·have hk2:k=l.length:=by omega
    subst hk2;have ht:lnT l (l.take l.length,l.length)=.inr (some l):=by
     unfold lnT;simp only[wb8 (wab _),wds]
    rw[zca ht]
 exact hg (l.length+1) 0 (wa7 _) (by omega)
theorem yqp{l:Str}(a c:Str×Nat)(hi:a.2<=l.length/\a.1.length<=a.2)(h:lnT l a=.inl c):(c.2<=l.length/\c.1.length<=c.2)/\l.length - c.2<l.length - a.2:=by
 unfold lnT at h;cases hx:l[a.2]? with
 |none=>rw[hx]at h;cases h
 |some x=>
  rw[hx]at h;dsimp only at h;have hlt:a.2<l.length:=(qg hx).1;by_cases hb:skB l a.2=true
  ·rw[if_pos hb]at h
   cases h;unfold skB at hb;rw[wb1]at hb;have h2:a.2+2<l.length:=by
    have hb2:=hb.2;cases hd:l[a.2+2]? with
    |none=>rw[hd]at hb2;cases hb2
    |some d=>exact(qg hd).1
   dsimp only;omega
  ·rw[if_neg hb]at h
   split at h
   ·cases h
   ·cases h
    simp only[wb0,waf,wdb];omega
theorem yvu(HP:zcz lib)(HB:zgp lib)(HS:zn8 lib)(s:Str)(hs:s.length<=100000000):evW code lib 78 [.flat (.string (S s))] [] []=some ((match(if([13,10]:Str).isSuffixOf s then lnU (s.take (s.length - 2))else none)with|some x=>[.flat (.string (S x)),.flat (.bool true)]|none=>[.flat (.string (S [])),.flat (.bool false)]),false,[],[]):=by
 have e1:=yi2 HS s [13,10] (by omega);refine zab zym (qa rfl) ?_;by_cases b:([13,10]:Str).isSuffixOf s=true
 case neg=>
  have b':([13,10]:Str).isSuffixOf s=false:=wdn.2 b;rw[if_neg b,b']at e1;rw[if_neg b];simp(maxSteps:=999999) (disch:=first|assumption|omega) only[go_sem,simprocAttr,au,e1]
 rw[if_pos b,b]at e1;rw[if_pos b];have hk:([13,10]:Str).length=2:=rfl;rw[hk]at e1;have hll:(s.take (s.length - 2)).length<=100000000:=by rw[wa2];omega
 obtain⟨l,hl⟩:∃l,s.take (s.length - 2)=l:=⟨_,rfl⟩;rw[hl]at e1 hll⊢;have hWB:∀(x:UInt8)(u:Bool)(out:Str),out.length+1<=bound->evW code lib 84 [.ptr 0 0,.flat (.int .u8 x.toNat)] [(59,bld u 0 out [])] [.cell 0 1]=some ([.flat .nilIface],false,[(59,bld true 0 (out++[x]) [])],[.cell 0 1]):=fun x u out h=>yun (lib:=lib) (r:=[]) (c:=x) HB rfl zzz h (by simp) (by simp)
 have hrel:=zic (body:=evC (evW code lib) big zlv) (live:=[0,5,6]) (nb:=1)
  (fun(u:Bool)(q:Str×Nat)=>(⟨[(0,.flat (.string (S l))),(5,.ptr 0 0),(6,.flat (.int .i64 (q.2:Nat)))],[.cell 0 1],[],[(59,bld u 0 q.1 [])]⟩:St))
  (lnT l) none (fun a o st=>match a with
    |some x=>o=.exit 0/\∃u,st=⟨[(5,.ptr 0 0)],[.cell 0 1],[],[(59,bld u 0 x [])]⟩
    |none=>o=.ret/\∃y,st=⟨[(2,.flat (.string (S []))),(3,.flat (.bool false))],[.cell 0 1],[],[y]⟩)
  (fun a=>a.2<=l.length/\a.1.length<=a.2) (fun a=>l.length - a.2) (fun u ⟨out,j⟩ hi=>?_) (fun u ⟨out,j⟩ hi=>?_) (fun a c hi h=>yqp a c hi h) (n:=l.length+1) (m:=big) false ([],0) ⟨wa7 _,wab _⟩ (by dsimp only;omega) (by unfold big;dsimp only;omega)
 ·obtain⟨o,st,hlo,hq⟩:=hrel
  have hE:runS (lnT l) none (l.length+1) ([],0)=lnU l:=rfl;rw[hE]at hq;dsimp only at hlo;rw[ynt]at hlo;simp only[n0]at hlo;cases hU:lnU l with
  |some x=>
   rw[hU]at hq;obtain⟨rfl,u,rfl⟩:=hq;have hst:=ycv (lib:=lib) (bx:=[(59,bld u 0 x [])]) (b:=0) (oc:=[.cell 0 1]) HB rfl (by simp);simp(maxSteps:=999999) (disch:=first|assumption|omega) only[go_sem,simprocAttr,au,e1,hlo,hst]
  |none=>
   rw[hU]at hq;obtain⟨rfl,y,rfl⟩:=hq;simp(maxSteps:=999999) (disch:=first|assumption|omega) only[go_sem,simprocAttr,au,e1,hlo]
 ·dsimp only at hi⊢
  have hbe:=z49 HP l [13,10] j (by omega) (by decide);unfold lnT;dsimp only;by_cases hlt:j<l.length
  ·have hg:l[j]?=some l[j]:=qe hlt
   obtain⟨c,hc⟩:∃c,l[j]=c:=⟨_,rfl⟩;rw[hc]at hg;simp only[hg];by_cases hb:zav l [13,10] j=true
   ·have hc13:c=13:=by
     unfold zav at hb;rw[wcm hlt,hc,wb1]at hb;have:=hb.2;simp only[List.isPrefixOf,wb1,beq_iff_eq]at this;exact this.1.symm
    have h13:(c.toNat=13)=True:=eq_true (by rw[hc13];rfl);rw[hb]at hbe;by_cases h2:j+2<l.length
    ·have hd:l[j+2]?=some l[j+2]:=qe h2
     obtain⟨d,hd'⟩:∃d,l[j+2]=d:=⟨_,rfl⟩;rw[hd']at hd;have hbl:=yi3 (lib:=lib) d;cases hbd:za2 d with
     |true=>
      rw[hbd]at hbl;simp only[skB,hb,hd,hbd,wc4,if_true];refine⟨u,?_⟩;have e2:(j:Int)+1+1=(j:Int)+2:=by omega
      simp(maxSteps:=999999) (disch:=first|assumption|omega) only[go_sem,simprocAttr,au,zdm,hbe,hg,hd,hbl,e2]
     |false=>
      rw[hbd]at hbl;simp only[skB,hb,hd,hbd,wdc,wbf,if_false,hc13,true_or,if_true];refine⟨.ret,⟨[(2,.flat (.string (S []))),(3,.flat (.bool false))],[.cell 0 1],[],[(59,bld u 0 out [])]⟩,?_,by simp,rfl,_,rfl⟩;simp(maxSteps:=999999) (disch:=first|assumption|omega) only[go_sem,simprocAttr,au,zdm,hbe,hg,hd,hbl,h13]
    ·have hd:l[j+2]?=none:=wb8 (by omega)
     simp only[skB,hb,hd,wdc,wbf,if_false,hc13,true_or,if_true];refine⟨.ret,⟨[(2,.flat (.string (S []))),(3,.flat (.bool false))],[.cell 0 1],[],[(59,bld u 0 out [])]⟩,?_,by simp,rfl,_,rfl⟩;simp(maxSteps:=999999) (disch:=first|assumption|omega) only[go_sem,simprocAttr,au,zdm,hbe,hg,h13]
   ·have hb':zav l [13,10] j=false:=wdn.2 hb
    rw[hb']at hbe;simp only[skB,hb',wdd,wbf,if_false];by_cases h13:c=13
    ·have h13':(c.toNat=13)=True:=eq_true (by rw[h13];rfl)
     rw[if_pos (.inl h13)];refine⟨.ret,⟨[(2,.flat (.string (S []))),(3,.flat (.bool false))],[.cell 0 1],[],[(59,bld u 0 out [])]⟩,?_,by simp,rfl,_,rfl⟩;simp(maxSteps:=999999) (disch:=first|assumption|omega) only[go_sem,simprocAttr,au,zdm,hbe,hg,h13']
    ·have h13':(c.toNat=13)=False:=eq_false fun h=>h13 (wdv.1 h)
     by_cases h10:c=10
     ·have h10':(c.toNat=10)=True:=eq_true (by rw[h10];rfl)
      rw[if_pos (.inr h10)];refine⟨.ret,⟨[(2,.flat (.string (S []))),(3,.flat (.bool false))],[.cell 0 1],[],[(59,bld u 0 out [])]⟩,?_,by simp,rfl,_,rfl⟩;simp(maxSteps:=999999) (disch:=first|assumption|omega) only[go_sem,simprocAttr,au,zdm,hbe,hg,h13',h10']
     ·have h10':(c.toNat=10)=False:=eq_false fun h=>h10 (wdv.1 h)
      rw[if_neg (by simp[h13,h10])];have hw:=hWB c u out (by unfold bound;omega);refine⟨true,?_⟩;simp(maxSteps:=999999) (disch:=first|assumption|omega) only[go_sem,simprocAttr,au,zdm,hbe,hg,h13',h10',hw]
  ·have hg:l[j]?=none:=wb8 (by omega)
   simp only[hg];refine⟨.exit 0,⟨[(5,.ptr 0 0)],[.cell 0 1],[],[(59,bld u 0 out [])]⟩,?_,by simp,rfl,u,rfl⟩;simp(maxSteps:=999999) (disch:=first|assumption|omega) only[go_sem,simprocAttr,au,zdm,hg]
 ·simp(maxSteps:=999999) (disch:=first|assumption|omega) only[go_sem,simprocAttr,au]
abbrev RSt:=Str×Bool×Bool
def rdS(W:List Str)(q:RSt×Nat):(RSt×Nat) ⊕ RSt:=match W[q.2]? with
 |none=>.inr q.1
 |some w=>.inl (rdT zh1 q.1 w,q.2+1)
theorem yi5(W:List Str)(d:RSt):∀(t:List Str)(k n:Nat)(q:RSt),W.drop k=t->t.length<n->runS (rdS W) d n (q,k)=t.foldl (rdT zh1) q
 |[],k,n+1,q,h,_=>by
  have:W[k]?=none:=by
   have:=congrArg List.length h;rw[wbc]at this;exact wb8 (by simpa using Nat.sub_eq_zero_iff_le.1 this)
  rw[zca (r:=q) (by unfold rdS;dsimp only;rw[this])];rfl
 |w::t,k,n+1,q,h,hn=>by
  have hk:W[k]?=some w:=by
   have:=congrArg (·[0]?) h;simpa using this
  rw[zep (b:=(rdT zh1 q w,k+1)) (by unfold rdS;dsimp only;rw[hk]),waz];refine yi5 W d t (k+1) n _ ?_ (by simp only[waf]at hn;omega);rw[<-wbd,h];rfl
theorem yvv(q:RSt)(w:Str):(rdT zh1 q w).1.length<=q.1.length+1+w.length:=by
 have:=ybl w;unfold rdT;split
 ·omega
 ·simp only[wb0]
  split<;>simp only[waf,wdb]<;>omega
def z3j(s:Str):Str×Str×Nat:=
 match(if([13,10]:Str).isSuffixOf s then lnU (s.take (s.length - 2))else none)with
 |none=>([],[],7)
 |some l=>if(Lib.cut l [58]).2.2&&zo5 (Lib.cut l [58]).1 then((Lib.cut l [58]).1,rdU zh1 (Lib.replaceAll (Lib.cut l [58]).2.1 [9] [32]),0)else([],[],7)
theorem yvw{l x:Str}(h:lnU l=some x):x.length<=l.length:=by
 have:=zl3 (step:=lnT l) (d:=none) (I:=fun a=>a.2<=l.length/\a.1.length<=a.2) (μ:=fun a=>l.length - a.2) (Q:=fun r=>∀x,r=some x->x.length<=l.length) (fun a hi=>by
  cases hs:lnT l a with
  |inl b=>exact yqp a b hi hs
  |inr r=>
   intro x hx;subst hx;unfold lnT at hs;cases hg:l[a.2]? with
   |none=>rw[hg]at hs;cases hs;have:=hi.1;have:=hi.2;omega
   |some c=>
    rw[hg]at hs;dsimp only at hs;split at hs
    ·cases hs
    ·split at hs<;>cases hs) (l.length+1) ([],0) ⟨wa7 _,wab _⟩ (by dsimp only;omega)
 exact this x h
theorem ydq(HI:zf2 lib)(HP:zkn lib)(HB:zgp lib)(HS:zn8 lib)(HD:zx4 lib)(f:Str)(W:List Str)(hW:W.length<=10001)(hw:∀w∈W,w.length<=10000):
 ∃o st,zcn (evC (evW code lib) big zia) [2,9,10,11,40,41,42] 1 big ⟨[(2,.flat (.string (S f))),(9,.ptr 0 0),(10,.flat (.bool false)),(11,.flat (.bool false)),(40,.slc W.length (zaq W)),(41,.flat (.int .i64 (W.length:Nat))),(42,.flat (.int .i64 0))],[.cell 0 1],[],[(59,bld false 0 [] [])]⟩=some (o,st)/\
  o=.exit 0/\∃u,st=⟨[(2,.flat (.string (S f))),(9,.ptr 0 0)],[.cell 0 1],[],[(59,bld u 0 (W.foldl (rdT zh1) ([],false,false)).1 [])]⟩:=by
 have hWS:∀(x:Str)(u:Bool)(out:Str),out.length+x.length<=bound->evW code lib 47 [.ptr 0 0,.flat (.string (S x))] [(59,bld u 0 out [])] [.cell 0 1]=some ([.flat (.int .i64 x.length),.flat .nilIface],false,[(59,bld true 0 (out++x) [])],[.cell 0 1]):=fun x u out h=>zxd (lib:=lib) (r:=[]) (m:=x) HB rfl zzz h (by simp) (by simp)
 have hWB:∀(u:Bool)(out:Str),out.length+1<=bound->evW code lib 84 [.ptr 0 0,.flat (.int .u8 32)] [(59,bld u 0 out [])] [.cell 0 1]=some ([.flat .nilIface],false,[(59,bld true 0 (out++[32]) [])],[.cell 0 1]):=fun u out h=>yun (lib:=lib) (r:=[]) (c:=32) HB rfl zzz h (by simp) (by simp)
 have hrel:=zic (body:=evC (evW code lib) big zia) (live:=[2,9,10,11,40,41,42]) (nb:=1)
  (fun(u:Bool)(q:RSt×Nat)=>(⟨[(2,.flat (.string (S f))),(9,.ptr 0 0),(10,.flat (.bool q.1.2.1)),(11,.flat (.bool q.1.2.2)),(40,.slc W.length (zaq W)),(41,.flat (.int .i64 (W.length:Nat))),(42,.flat (.int .i64 (q.2:Nat)))],[.cell 0 1],[],[(59,bld u 0 q.1.1 [])]⟩:St))
  (rdS W) ([],false,false) (fun q o st=>o=.exit 0/\∃u,st=⟨[(2,.flat (.string (S f))),(9,.ptr 0 0)],[.cell 0 1],[],[(59,bld u 0 q.1 [])]⟩)
  (fun q=>q.2<=W.length/\q.1.1.length<=q.2* 10001) (fun q=>W.length - q.2) (fun u ⟨⟨out,so,wa⟩,j⟩ hi=>?_) (fun u ⟨⟨out,so,wa⟩,j⟩ hi=>?_) (fun a c hi h=>?_) (n:=W.length+1) (m:=big) false (([],false,false),0) ⟨wa7 _,wab _⟩ (by dsimp only;omega) (by unfold big;dsimp only;omega)
 ·rw[yi5 W _ W 0 (W.length+1) _ rfl (by omega)]at hrel
  exact hrel
 ·dsimp only at hi⊢
  unfold rdS;dsimp only;by_cases hlt:j<W.length
  ·have hg:W[j]?=some W[j]:=qe hlt
   have hsd:(zaq W).drop j=.flat (.string (S W[j]))::(zaq W).drop (j+1):=by
    rw[zaq,<-wd6,<-wd6,wcm hlt];rfl
   have hwl:=hw W[j] (wd5 hlt);obtain⟨w,hc⟩:∃w,W[j]=w:=⟨_,rfl⟩;rw[hc]at hg hsd hwl;simp only[hg];have hb:out.length+10001<=200000000:=by have:=hi.2;have:=hi.1;have h3:j* 10001<=10001* 10001:=Nat.mul_le_mul_right _ (by omega);omega
   clear hi;have hbv:bound=4294967296:=rfl;unfold rdT;by_cases h0:w=[]
   ·subst h0
    rw[if_pos rfl];refine⟨u,?_⟩;simp(maxSteps:=999999) (disch:=first|assumption|omega) only[go_sem,simprocAttr,au,zei,hsd]
   ·rw[if_neg h0]
    have h0':=eq_false h0;have hd:=ydp HP HS HD w (by omega);have hdl:=ybl w;obtain⟨⟨t,c⟩,ht⟩:∃q,zh1 w=q:=⟨_,rfl⟩;rw[ht]at hd hdl⊢;dsimp only at hd hdl⊢;have w1:=hWB u out (by omega);have w2:=hWS t true (out++[32]) (by simp only[wb0,waf,wdb];omega);have w3:=hWS t u out (by omega);refine⟨true,?_⟩;cases so
    ·simp only[wdd,wbf,if_false,wcf]
     simp(maxSteps:=999999) (disch:=first|assumption|omega) only[go_sem,simprocAttr,au,zei,hsd,hd,h0',w3]
    ·cases wa
     ·simp only[wdd,wbj,wc4,if_true]
      simp(maxSteps:=999999) (disch:=first|assumption|omega) only[go_sem,simprocAttr,au,zei,hsd,hd,h0',w1,w2]
     ·cases c
      ·simp only[wdc,wbj,wc4,if_true]
       simp(maxSteps:=999999) (disch:=first|assumption|omega) only[go_sem,simprocAttr,au,zei,hsd,hd,h0',w1,w2]
      ·simp only[wc4,wbe,wdc,wbf,if_false,wcf]
       simp(maxSteps:=999999) (disch:=first|assumption|omega) only[go_sem,simprocAttr,au,zei,hsd,hd,h0',w3]
  ·have hg:W[j]?=none:=wb8 (by omega)
   simp only[hg];refine⟨.exit 0,⟨[(2,.flat (.string (S f))),(9,.ptr 0 0)],[.cell 0 1],[],[(59,bld u 0 out [])]⟩,?_,by simp,rfl,u,rfl⟩;simp(maxSteps:=999999) (disch:=first|assumption|omega) only[go_sem,simprocAttr,au,zei]
 ·simp(maxSteps:=999999) (disch:=first|assumption|omega) only[go_sem,simprocAttr,au]
 ·unfold rdS at h
  split at h
  ·cases h
  ·rename_i w hg
   obtain⟨hlt,hge⟩:=qg hg;have h1:=yvv a.1 w;have h2:=hw w (wao hg);cases h;dsimp only;have h3:(a.2+1)* 10001=a.2* 10001+10001:=by omega
   exact⟨⟨by omega,by rw[h3];omega⟩,by omega⟩
theorem y1p(l w:Str):(Lib.cut l w).1.length<=l.length/\(Lib.cut l w).2.1.length<=l.length:=by
 unfold Lib.cut;split
 ·simp only[wa2,wbc];omega
 ·simp
theorem z3k(HI:zf2 lib)(HP:zcz lib)(HC:zug lib)(HCP:zkn lib)(HR:zx3 lib)(HB:zgp lib)(HS:zn8 lib)(HD:zx4 lib)(s:Str)(hs:s.length<=10000):evW code lib 41 [.flat (.string (S s))] [] []=some ([.flat (.string (S (z3j s).1)),.flat (.string (S (z3j s).2.1)),.flat (.int .i64 ((z3j s).2.2:Nat))],false,[],[]):=by
 have e1:=yvu HP HB HS s (by omega);refine zab zyl (qa rfl) ?_;unfold z3j;have hln:∀x,(if([13,10]:Str).isSuffixOf s then lnU (s.take (s.length - 2))else none)=some x->x.length<=10000:=fun x hx=>by
  split at hx
  ·have:=yvw hx;rw[wa2]at this;omega
  ·cases hx
 obtain⟨o,ho⟩:∃o,(if([13,10]:Str).isSuffixOf s then lnU (s.take (s.length - 2))else none)=o:=⟨_,rfl⟩;rw[ho]at e1 hln⊢;cases o with
 |none=>
  dsimp only at e1⊢;have e2:=z80 HC [] [58] (by simp);rw[show Lib.cut [] [58]=([],[],false) by decide]at e2;dsimp only at e2;simp(maxSteps:=999999) (disch:=first|assumption|omega) only[go_sem,simprocAttr,au,e1,e2]
 |some l=>
  have hl:=hln l rfl;dsimp only at e1⊢;have e2:=z80 HC l [58] (by omega);have hcl:(Lib.cut l [58]).1.length<=l.length/\(Lib.cut l [58]).2.1.length<=l.length:=y1p l [58];obtain⟨⟨f,r,b⟩,hc⟩:∃q,Lib.cut l [58]=q:=⟨_,rfl⟩;rw[hc]at e2 hcl⊢;dsimp only at e2 hcl⊢;have e3:=yhc (lib:=lib) f (by omega);cases b with
  |false=>
   rw[wdd];simp(maxSteps:=999999) (disch:=first|assumption|omega) only[go_sem,simprocAttr,au,e1,e2]
  |true=>
   rcases web (zo5 f)with hn|hn
   ·rw[hn]at e3⊢
    have e4:=y1m HR r [9] [32] (by omega) (by decide) (by decide);have hrl:=yvs r [9] [32] (by decide);obtain⟨y,hy⟩:∃y,Lib.replaceAll r [9] [32]=y:=⟨_,rfl⟩;rw[hy]at e4 hrl⊢;have e5:=yqc HI y 32 (by omega);have hwl:=zvc 32 y;obtain⟨o,st,h1,rfl,u,rfl⟩:=ydq HI HCP HB HS HD f (cutU 32 y) (by omega) fun w hw=>by have:=zvd 32 y w hw;omega
    have hst:=ycv (lib:=lib) (bx:=[(59,bld u 0 (rdU zh1 y) [])]) (b:=0) (oc:=[.cell 0 1]) HB rfl (by simp);have hrd:((cutU 32 y).foldl (rdT zh1) ([],false,false)).1=rdU zh1 y:=rfl;rw[hrd]at h1;rw[ynt]at h1;have h32:((32:UInt8).toNat:Int)=32:=rfl;rw[h32]at e5;obtain⟨W,hW⟩:∃W,cutU 32 y=W:=⟨_,rfl⟩;rw[hW]at e5 h1;have hnp:=zbh W;have hlo:=fun n=>zcy (n:=n) W
    have hsl:W.length<=10001:=by rw[<-hW];omega
    simp(maxSteps:=999999) (disch:=first|assumption|omega) only[go_sem,simprocAttr,au,e1,e2,e3,e4,e5,h1,hst,hnp,hlo]
   ·rw[hn]at e3⊢
    simp(maxSteps:=999999) (disch:=first|assumption|omega) only[go_sem,simprocAttr,au,e1,e2,e3]
end Nun
section
set_option synthInstance.maxSize 4000
namespace Nun
open Go Go.RowKit
def strCells(l:List (List UInt8)):List Value:=l.map fun x=>.string ⟨x.toArray⟩
theorem z3l(l:List (List UInt8))(x:List UInt8):strCells (l++[x])=strCells l++[.string ⟨x.toArray⟩]:=by simp[strCells]
theorem ybm(s:List UInt8)(i:Nat):begL s [13,10] i=true ↔ s[i]?=some 13/\s[i+1]?=some 10:=by
 unfold begL;rw[wb1,decide_eq_true_eq,beq_iff_eq,<-List.head?_drop,show s[i+1]?=(s.drop i)[1]? by rw[wal]];have hl:(s.drop i).length=s.length - i:=wbc
 match h:s.drop i with
 |[]=>simp
 |[a]=>simp
 |a::b::r=>rw[h]at hl;simp at hl;simp;intro _ _;omega
def endV(k:Nat):Option Nat->Int|some j=>((k+j:Nat):Int)|none=>-1
def zf5:List (List UInt8×Nat)->Option (List (List UInt8)×Nat)
 |[]=>none
 |(ln,a)::r=>if ln=[]then some ([],a)else(zf5 r).map fun p=>(ln::p.1,p.2)
theorem zuh:∀(xs:List (List UInt8×Nat))(st:List Fld×Bool),zf5 xs=none->zb7 xs st=none
 |[],st,_=>rfl
 |(ln,a)::r,st,h=>by
  rw[zf5]at h;by_cases hl:ln=[]
  ·rw[if_pos hl]at h;cases h
  ·rw[if_neg hl]at h
   have hr:zf5 r=none:=by simpa using h
   rw[zb7,if_neg hl];rcases za0 st ln with _|st'
   ·rfl
   ·exact zuh r st' hr
theorem zui:∀(xs:List (List UInt8×Nat))(st:List Fld×Bool)(ls:List (List UInt8))(a:Nat),zf5 xs=some (ls,a)->zb7 xs st=(zbn ls st).map fun s=>(s.1,s.2,a)
 |[],st,ls,a,h=>by cases h
 |(ln,b)::r,st,ls,a,h=>by
  rw[zf5]at h;by_cases hl:ln=[]
  ·rw[if_pos hl]at h;cases h;rw[zb7,if_pos hl];rfl
  ·rw[if_neg hl]at h
   rcases hr:zf5 r with _|⟨ls',a'⟩
   ·rw[hr]at h;cases h
   ·rw[hr]at h
    cases h;rw[zb7,if_neg hl,zbn,wed];rcases hs:za0 st ln with _|st'
    ·rfl
    ·exact zui r st' ls' a' hr
theorem z6m:∀(xs:List (List UInt8×Nat))(ls:List (List UInt8))(a:Nat),zf5 xs=some (ls,a)->∀x∈ls,x≠[]
 |[],ls,a,h=>by cases h
 |(ln,b)::r,ls,a,h=>by
  rw[zf5]at h;by_cases hl:ln=[]
  ·rw[if_pos hl]at h;cases h;simp
  ·rw[if_neg hl]at h
   rcases hr:zf5 r with _|⟨ls',a'⟩
   ·rw[hr]at h;cases h
   ·rw[hr]at h
    cases h;intro x hx;rcases waq.1 hx with rfl|hx
    ·exact hl
    ·exact z6m r ls' _ hr x hx
theorem z0w:∀(xs:List (List UInt8×Nat))(ls:List (List UInt8))(a:Nat),zf5 xs=some (ls,a)->ls.length<=xs.length/\∀x∈ls,∃b,(x,b)∈xs
 |[],ls,a,h=>by cases h
 |(ln,b)::r,ls,a,h=>by
  rw[zf5]at h;by_cases hl:ln=[]
  ·rw[if_pos hl]at h;cases h;simp
  ·rw[if_neg hl]at h
   rcases hr:zf5 r with _|⟨ls',a'⟩
   ·rw[hr]at h;cases h
   ·rw[hr]at h
    cases h;have:=z0w r ls' _ hr;refine⟨by simp;exact this.1,fun x hx=>?_⟩;rcases waq.1 hx with rfl|hx
    ·exact⟨b,by simp⟩
    ·obtain⟨c,hc⟩:=this.2 x hx;exact⟨c,by simp[hc]⟩
end Nun
namespace Go.Proofs.YtmpiobfdchlikaaGreatDoor
open Go Go.RowKit Nun
theorem z6n(s x:ByteArray)(k:Nat)(b:Bool)(h:begL s.data.toList x.data.toList k=b)(w:World)(hs:s.size<=1000000000)(hx:x.size<=1000000000)(hk:k<=1000000000):Calls Tryz.prog 60 #[.string s,.string x,.int .i64 k] w (Same (.bool b) w):=h▸ydb s x k w hs hx hk
theorem yvx(s:ByteArray)(k:Nat)(w:World)(hs:s.size<=1000000)(hk:k<=s.size)(o:Option Nat)(ho:crAt (s.data.toList.drop k)=o):Calls Tryz.prog 168 #[.string s,.int .i64 k] w (Same (.int .i64 (endV k o)) w):=by
 have hat:∀d,k+d<=s.size->begL s.data.toList [13,10] (k+d)=decide (o=some d)\/∃e,o=some e/\e<d:=by
  intro d hd;by_cases hod:o=some d
  ·left
   rw[hod]at ho;have:=zr0 ho;rw[wal,wal]at this;rw[(ybm _ _).2 this];simp[hod]
  ·by_cases hlt:∃e,o=some e/\e<d
   ·exact .inr hlt
   ·left
    rw[show decide (o=some d)=false by simpa using hod];have hn:¬(begL s.data.toList [13,10] (k+d)=true):=by
     rw[ybm];intro h;rw[<-wal,show k+d+1=k+(d+1) by omega,<-wal]at h;rcases o with _|e
     ·exact zxl ho d h
     ·have hne:e≠d:=fun e'=>hod (by rw[e'])
      by_cases hed:e<d
      ·exact hlt ⟨e,rfl,hed⟩
      ·exact zop ho d (by omega) h
    simpa using hn
 have hbd:∀e,o=some e->k+e+2<=s.size:=by
  intro e h;rw[h]at ho;have:=zh0 ho;rw[wbc,show s.data.toList.length=s.size from rfl]at this;omega
 have HA:=Lib.hid hat;clear hat ho;obtain⟨V,hV⟩:∃V,endV k o=V:=⟨_,rfl⟩;rw[hV];have HV:=Lib.hid hV;have HBD:=Lib.hid hbd;clear hV hbd
 go_enter Tryz.func168,Tryz.ntmps168
 go_wp2
 go_loop [5] (fun i=>∃d:Nat,i=.int .i64 ((k+d:Nat):Int)/\k+d<=s.size/\Hid (¬∃e,o=some e/\e<d)) (fun i=>s.size - (intOf i).toNat)
 case atStart=>exact⟨0,rfl,by omega,Lib.hid (by rintro⟨e,_,h⟩;omega)⟩
 case round=>
  obtain⟨d,rfl,hd,hno⟩:=hrel;have hcast:((k+d:Nat):Int)=(k:Int)+d:=by omega
  by_cases hlt:k+d<s.size
  ·have hb:=(HA.out d (by omega)).resolve_right hno.out
   obtain⟨i,hi⟩:∃i,k+d=i:=⟨_,rfl⟩;rw[hi]at hb hd hlt;by_cases hod:o=some d
   ·have HB:=Lib.hid (show begL s.data.toList (ByteArray.mk #[13,10]).data.toList i=true by rw[hb];simp[hod])
    have HR:=Lib.hid (show(i:Int)=V by rw[<-HV.out,hod,<-hi];rfl);have HI:=Lib.hid hi;rw[hi];clear hb hcast hod hi
    go_wp2_with(go_at_call 60;refine(z6n s ⟨#[13,10]⟩ i true HB.out _ (by omega) (by decide) (by omega)).mono ?_;rintro e w1 ⟨rfl,rfl⟩)
    go_ret;exact⟨r1 (vi HR.out),rfl⟩
   ·have HB:=Lib.hid (show begL s.data.toList (ByteArray.mk #[13,10]).data.toList i=false by rw[hb];simp[hod])
    have HN:=Lib.hid (show¬∃e,o=some e/\e<d+1 by
     rintro⟨e,he,hed⟩;exact hno.out ⟨e,he,by
      have:e≠d:=fun h=>hod (by rw[he,h])
      omega⟩)
    have HI:=Lib.hid hi;rw[hi];clear hb hcast hod hi
    go_wp2_with(go_at_call 60;refine(z6n s ⟨#[13,10]⟩ i false HB.out _ (by omega) (by decide) (by omega)).mono ?_;rintro e w1 ⟨rfl,rfl⟩)
    go_round
    case rel=>exact⟨d+1,by rw[show k+(d+1)=i+1 by have:=HI.out;omega];go_num,by have:=HI.out;omega,HN⟩
    case measure=>simp[intOf];omega
  ·have hnone:o=none:=by
    rcases o with _|e
    ·rfl
    ·have h1:=HBD.out e rfl
     have h2:¬e<d:=fun h=>hno.out ⟨e,rfl,h⟩
     omega
   have HR:=Lib.hid (show(-1:Int)=V by rw[<-HV.out,hnone];rfl);have hlt2:¬((k:Int)+d<s.size):=by omega
   clear hnone;go_wp2;go_ret;exact⟨r1 (vi HR.out),rfl⟩
theorem z81(c:UInt8)(w:World):Calls Tryz.prog 113 #[.int .u8 c.toNat] w (Same (.bool (za2 c)) w):=by
 go_enter Tryz.func113,Tryz.ntmps113
 go_wp2
 all_goals (go_ret;refine⟨r1 (vb ?_),rfl⟩)
 all_goals (go_light;revert c;decide+kernel)
def y1q:Option (List (List UInt8)×Nat)->World->Ending->World->Prop
 |none,w,e,w'=>e=.returned (.tuple #[.slice none 0 0,.int .i64 0,.bool false])/\Below w.heap.size w w'
 |some (ls,a),w,e,w'=>∃v,e=.returned (.tuple #[v,.int .i64 a,.bool true])/\w'.ownsRow w.heap.size 9 1 v ls.length (strCells ls)/\Below w.heap.size w w'
theorem ydr:(Tryz.prog.info? 9).map (fun i=>(i.zero,i.size,i.bytes))=some (some (.string ⟨#[]⟩),1,16):=by kernel_rfl
theorem z82(s:ByteArray)(k:Nat)(V:Int)(o:Option Nat)(ho:crAt (s.data.toList.drop k)=o)(hV:endV k o=V)(w:World)(hs:s.size<=1000000)(hk:k<=s.size):Calls Tryz.prog 168 #[.string s,.int .i64 k] w (Same (.int .i64 V) w):=hV▸yvx s k w hs hk o ho
theorem z6o(s:ByteArray)(w:World)(hs:s.size<=1000000)(R:Option (List (List UInt8)×Nat))(hR:zf5 (itL s.data.toList 0)=R):Calls Tryz.prog 111 #[.string s] w (y1q R w):=by
 have HRR:=Lib.hid hR;clear hR
 go_enter Tryz.func111,Tryz.ntmps111
 go_wp2
 go_loopw [5,6,7] (fun v i _ wr=>∃(k:Nat)(acc:List (List UInt8)),i=.int .i64 k/\k<=s.size/\acc.length<=k/\wr.ownsRow w.heap.size 9 1 v acc.length (strCells acc)/\Below w.heap.size w wr/\Hid (R=(zf5 (itL (s.data.toList.drop k) k)).map fun p=>(acc++p.1,p.2)))
  (fun _ i _ _=>s.size+1 - (intOf i).toNat)
 case atStart=>exact⟨0,[],rfl,wa7 _,wab _,World.ownsRow_made (size:=1) w _ 0 (wab _) (by decide) (by decide),(Below.refl _ _).alloc (wab _) _,Lib.hid (by rw[wc8,HRR.out];simp)⟩
 case round=>
  obtain⟨k,acc,rfl,hk,hal,hown,hbel,hacc⟩:=hrel;rcases ho:crAt (s.data.toList.drop k)with _|j
  ·have HV:=Lib.hid (show endV k none=-1 from rfl)
   have HO:=Lib.hid ho;have hfin:R=none:=by rw[hacc.out,zfo ho];rfl
   have HF:=Lib.hid hfin;clear ho hfin
   go_wp2_with(go_at_call 168;refine(z82 s k (-1) none HO.out HV.out _ (by omega) hk).mono ?_;rintro e w1 ⟨rfl,rfl⟩)
   go_ret3
   rw[HF.out];exact⟨rfl,hbel⟩
  ·have hlt:=zh0 ho
   rw[wbc,show s.data.toList.length=s.size from rfl]at hlt;have hit:=zhg (a:=k) ho;rw[wbd]at hit;have HO:=Lib.hid ho;have HIT:=Lib.hid hit;clear ho hit;obtain⟨tO,hto⟩:∃tO,k+j=tO:=⟨_,rfl⟩;have HV:=Lib.hid (show endV k (some j)=(tO:Int) by rw[<-hto];rfl);by_cases hj:j=0
   ·have hfin:R=some (acc,k+2):=by
     rw[hacc.out,HIT.out,hj];simp[zf5]
    have HF:=Lib.hid hfin;obtain rfl:k=tO:=by omega
    clear hj hto hfin
    go_wp2_with(go_at_call 168;refine(z82 s k k (some j) HO.out HV.out _ (by omega) hk).mono ?_;rintro e w1 ⟨rfl,rfl⟩)
    go_ret3
    rw[HF.out];exact⟨_,rfl,hown,hbel⟩
   ·have hne:((tO:Int)==(k:Int))=false:=by rw[beq_eq_false_iff_ne];omega
    have hsl:(s.extract k tO).data.toList=(s.data.toList.drop k).take j:=by rw[Lib.extract_data,show tO - k=j by omega]
    have hfin:R=(zf5 (itL (s.data.toList.drop (tO+2)) (tO+2))).map fun p=>(acc++[(s.extract k tO).data.toList]++p.1,p.2):=by
     have hn0:(s.data.toList.drop k).take j≠[]:=by
      intro h;have:=congrArg List.length h;rw[wa2,wbc,show s.data.toList.length=s.size from rfl]at this;simp at this;omega
     rw[hacc.out,HIT.out,zf5,if_neg hn0,if_neg hj,hsl,show k+(j+2)=tO+2 by omega,show k+j+2=tO+2 by omega];rcases zf5 (itL (s.data.toList.drop (tO+2)) (tO+2))with _|p<;>simp
    have HF:=Lib.hid hfin;have hle1:(k:Int)<=(tO:Int):=by omega
    have hle2:(tO:Int)+2<=(s.size:Int):=by omega
    have hnn:(0:Int)<=tO:=by omega
    have hktO:k<tO:=by omega
    have HTO:=Lib.hid hto;obtain⟨x,hx⟩:∃x,s.extract k tO=x:=⟨_,rfl⟩;rw[hx]at HF;have hxs:x.size<=1000000:=by rw[<-hx,wee];omega
    clear hj hto hfin hsl
    go_wp2_with(first|(go_at_call 168;refine(z82 s k tO (some j) HO.out HV.out _ (by omega) hk).mono ?_;rintro e w1 ⟨rfl,rfl⟩)|(at_builtin;refine yhz (by rfl) _ _ _ (by rfl) 9 (.string ⟨#[]⟩) 1 16 Tryz.underlying39 ydr rfl (by decide) w.heap.size wr _ _ _ (by rfl) hown [.string x] rfl (by simp[Value.oneCell']) (by rfl) (by omega) (by omega) hbel.size ?_;intro g cap w1 hg hown1 hgr hb1 hsz1))
    go_roundw
    case rel=>
     exact⟨tO+2,acc++[x.data.toList],by go_num,by omega,by simp;omega,by rw[z3l,wb0];exact hown1,hbel.trans hb1,HF⟩
    case measure=>simp[intOf];omega
end Go.Proofs.YtmpiobfdchlikaaGreatDoor
end
section
set_option synthInstance.maxSize 4000
namespace Nun
open Go Go.RowKit
theorem yvy{st st':List Fld×Bool}{l:List UInt8}(h:za0 st l=some st'):st'.1≠[]:=by
 unfold za0 at h;split at h
 ·cases h
 ·split at h
  ·split at h
   ·cases h
   ·cases h;simp
  ·split at h
   ·cases h
   ·split at h
    ·cases h;simp
    ·cases h
theorem ybn:∀(ls:List (List UInt8))(st st':List Fld×Bool),zbn ls st=some st'->ls≠[]->st'.1≠[]
 |[],st,st',_,h=>absurd rfl h
 |[l],st,st',h,_=>by
  rw[zbn,wed]at h;obtain⟨s1,h1,h2⟩:=qb h;simp at h2;rw[<-h2];exact yvy h1
 |l::m::ls,st,st',h,_=>by
  rw[zbn,wed]at h;obtain⟨s1,h1,h2⟩:=qb h;exact ybn (m::ls) s1 st' h2 (by simp)
theorem ztd(ls:List (List UInt8))(k:Nat)(st0 st:List Fld×Bool)(hk:k<ls.length)(h:zbn (ls.take k) st0=some st):zbn (ls.take (k+1)) st0=za0 st ls[k]:=by
 rw[wa0 hk,zql,h];rfl
theorem yi6(ls:List (List UInt8))(k:Nat)(st0 st:List Fld×Bool)(hk:k<ls.length)(h:zbn (ls.take k) st0=some st)(hb:za0 st ls[k]=none):zbn ls st0=none:=by
 have h1:=ztd ls k st0 st hk h;rw[hb]at h1;have:ls=ls.take (k+1)++ls.drop (k+1):=(wc9 _ _).symm;rw[this];unfold zbn at h1⊢;rw[List.foldlM_append,h1];rfl
theorem yo5{w:World}{B e g cap m:Nat}{F0:List Fld}{q:Fld}{p:ByteArray}(hrow:w.ownsRow B e 2 (.slice (some ⟨g,0,none⟩) (m+1) cap) (m+1) (zan F0++[.string ⟨q.1.toArray⟩,.string ⟨q.2.toArray⟩]))(hm:F0.length=m):
 (w.setCell ⟨g,m* 2+1,none⟩ (.string (⟨q.2.toArray⟩++p))).ownsRow B e 2 (.slice (some ⟨g,0,none⟩) (m+1) cap) (F0++[(q.1,q.2++p.data.toList)]).length (zan (F0++[(q.1,q.2++p.data.toList)])):=by
 have:=(hrow.stored (m* 2+1) (.string (⟨q.2.toArray⟩++p))).1;rw[ze6];dsimp only;rw[wb0,hm,List.length_singleton];rw[wa1 _ _ (by rw[zcv];omega),zcv,hm,show m* 2+1 - m* 2=1 by omega]at this;have e:(ByteArray.mk q.2.toArray++p)=⟨(q.2++p.data.toList).toArray⟩:=by
  apply wdf;apply wba;simp
 rw[e]at this;rw[<-e];rw[<-e]at this;exact this
theorem yo6(p:ByteArray)(d:Nat):p.extract 0 d=⟨(p.data.toList.take d).toArray⟩:=by
 apply wdf;apply wba;rw[Lib.extract_data,wc8,wc2]
theorem yo7(p:ByteArray)(d:Nat):p.extract d p.size=⟨(p.data.toList.drop d).toArray⟩:=by
 apply wdf;apply wba;rw[Lib.extract_data,wco (by rw[wbc];exact wab _)]
theorem yo8{w:World}{B e:Nat}{v:Value}{F:List Fld}{a b:List UInt8}{X Y:ByteArray}(h:w.ownsRow B e 2 v (F.length+1) (zan F++[.string X,.string Y]))(hX:X=⟨a.toArray⟩)(hY:Y=⟨b.toArray⟩):w.ownsRow B e 2 v (F.length+1) (zan (F++[(a,b)])):=by
 subst hX;subst hY;rw[ze6];exact h
theorem yo9{w:World}{b b':Nat}{e:TypeId}{size:Nat}{v:Value}{n:Nat}{xs:List Value}(h:w.ownsRow b e size v n xs)(hb:b'<=b):w.ownsRow b' e size v n xs:=⟨h.1,h.2.imp id fun⟨g,cap,cur,h1,h2,h3⟩=>⟨g,cap,cur,h1,wac hb h2,h3⟩⟩
def zn9(F:List Fld)(k:Nat):List Fld:=(F.take k).map (fun p=>(p.1,trimB p.2))++F.drop k
theorem z6p(F:List Fld)(k:Nat)(hk:k<F.length)(q:Fld)(hq:F[k]=q):(zan (zn9 F k)).length=F.length* 2/\(zan (zn9 F k))[k* 2+1]?=some (.string ⟨q.2.toArray⟩)/\(zan (zn9 F k)).set (k* 2+1) (.string ⟨(trimB q.2).toArray⟩)=zan (zn9 F (k+1)):=by
 have hmix:zan (zn9 F k)=zan ((F.take k).map (fun p=>(p.1,trimB p.2)))++([.string ⟨q.1.toArray⟩,.string ⟨q.2.toArray⟩]++zan (F.drop (k+1))):=by
  unfold zn9;rw[wcm hk,hq];simp[zan]
 have hml:(zan ((F.take k).map (fun p=>(p.1,trimB p.2)))).length=k* 2:=by rw[zcv,wbt,wa2];omega
 refine⟨?_,?_,?_⟩
 ·rw[zcv];unfold zn9;rw[wb0,wbt,wa2,wbc];omega
 ·rw[hmix,wbr (by omega),hml,show k* 2+1 - k* 2=1 by omega];rfl
 ·rw[hmix,wa1 _ _ (by rw[hml];omega),hml,show k* 2+1 - k* 2=1 by omega]
  unfold zn9;rw[wa0 hk,hq];simp[zan]
theorem ne58:∀d:UInt8,d≠58->((d.toNat:Int) !=58)=true:=by decide+kernel
theorem yi7(L:Bool)(p:ByteArray)(b:Bool)(h:(L||decide ((998:Int)<p.size))=b):Value.bool b=.bool (L||decide (998<p.data.toList.length)):=by
 rw[<-h];congr 2;rw[decide_eq_decide,show p.data.toList.length=p.size from rfl];omega
def y1r(v:Value)(ls:List (List UInt8))(w:World):Prop:=∃a n cap,v=.slice a n cap/\n=ls.length/\n<=cap/\(n=0\/∃g o,a=some ⟨g,o,none⟩/\g<w.heap.size/\∀(j:Nat)(x:List UInt8),ls[j]?=some x->w.cell? ⟨g,o+j,none⟩=some (.string ⟨x.toArray⟩))
theorem yds{w:World}{B e:Nat}{v:Value}{ls:List (List UInt8)}(h:w.ownsRow B e 1 v ls.length (strCells ls)):y1r v ls w:=by
 rcases zov h with⟨rfl,h0⟩|⟨g,cap,rfl,hB,hg,hc⟩
 ·exact⟨_,_,_,rfl,h0.symm,wab _,.inl rfl⟩
 ·refine⟨_,_,_,rfl,rfl,hc,.inr ⟨g,0,rfl,hg,fun j x hj=>?_⟩⟩
  have hjl:=(qg hj).1;have:=h.cellAt j (by omega);rw[wbx,this,strCells,wbu,hj];rfl
end Nun
namespace Go.Proofs.YtmpiobfdchlikaaGreatDoor
open Go Go.RowKit Nun
def yvz:Split->World->Ending->World->Prop
 | .form,w,e,w'=>e=.returned (.tuple #[.slice none 0 0,.int .i64 0,.int .i64 7])/\Below w.heap.size w w'
 | .long,w,e,w'=>e=.returned (.tuple #[.slice none 0 0,.int .i64 0,.int .i64 6])/\Below w.heap.size w w'
 | .ok l b,w,e,w'=>∃v,e=.returned (.tuple #[v,.int .i64 b,.int .i64 0])/\w'.ownsRow w.heap.size 41 2 v l.length (zan l)/\Below w.heap.size w w'
theorem zoy(s:ByteArray)(b:Bool)(h:s.data.toList.all zeb=b)(w:World)(hs:s.size<=maxLen):Calls Tryz.prog 112 #[.string s] w (Same (.bool b) w):=h▸yif s w hs
theorem ybo(s:ByteArray)(b:Bool)(h:zji s.data.toList=b)(w:World)(hs:s.size<=maxLen):Calls Tryz.prog 49 #[.string s] w (Same (.bool b) w):=h▸yok s w hs
theorem zoa(c:UInt8)(b:Bool)(h:za2 c=b)(w:World):Calls Tryz.prog 113 #[.int .u8 c.toNat] w (Same (.bool b) w):=h▸z81 c w
theorem ydt:(Tryz.prog.info? 41).map (fun i=>(i.zero,i.size,i.bytes))=some (some (.agg #[.string ⟨#[]⟩,.string ⟨#[]⟩]),2,32):=by kernel_rfl
set_option maxRecDepth 100000 in
theorem yi8(s:ByteArray)(w:World)(hs:s.size<=10000)(V:Split)(hV:zbu s.data.toList=V):Calls Tryz.prog 61 #[.string s] w (yvz V w):=by
 rcases hR:zf5 (itL s.data.toList 0)with _|⟨ls,at_⟩
 ·have hform:V=.form:=by rw[<-hV];unfold zbu;rw[zuh _ _ hR]
  subst hform;have HR:=Lib.hid hR;clear hR hV
  go_enter Tryz.func61,Tryz.ntmps61
  go_wp2_with(go_at_call 111;refine(z6o s _ (by omega) none HR.out).mono ?_;rintro e w1 ⟨rfl,hb1⟩)
  go_ret3
  exact⟨rfl,hb1⟩
 ·have hrun:=zui _ ([],false) _ _ hR
  have hlen:ls.length<=10000/\∀x∈ls,x.length<=10000:=by
   have h1:=z0w _ _ _ hR;have h2:=zxo _ s.data.toList 0 (wab _);refine⟨wac h1.1 (wac h2 hs),fun x hx=>?_⟩;obtain⟨b,hb⟩:=h1.2 x hx;exact wac (yh2 _ _ _ (wab _) _ hb) hs
  have hne:=z6m _ _ _ hR;have HR:=Lib.hid hR;have hVV:V=match zbn ls ([],false)with|none=>.form|some (_,true)=>.long|some (f,false)=>.ok (f.map fun p=>(p.1,trimB p.2)) at_:=by
   rw[<-hV];unfold zbu;rw[hrun];rcases zbn ls ([],false)with _|⟨f,_|_⟩<;>rfl
  have HV:=Lib.hid hVV;obtain⟨hln,hlx⟩:=hlen;have HX:=Lib.hid hlx;have HNE:=Lib.hid hne;clear hR hV hrun hVV hlx hne
  go_enter Tryz.func61,Tryz.ntmps61
  go_wp2_with(go_at_call 111;refine(z6o s _ (by omega) _ HR.out).mono ?_;rintro e w1 ⟨v,rfl,hown,hb1⟩;obtain⟨a0,n0,cap0,rfl,hn0,hc0,hr0⟩:=yds hown;have HN0:=Lib.hid hn0;have HR0:=Lib.hid hr0;clear hown hn0 hr0)
  have hbs:=hb1.size
  go_loopw [8,9,10,11,12] (fun v lg i _ _ wr=>∃(k:Nat)(F:List Fld)(L:Bool),i=.int .i64 k/\k<=n0/\lg=.bool L/\wr.ownsRow w1.heap.size 41 2 v F.length (zan F)/\Below w1.heap.size w1 wr/\Hid (zbn (ls.take k) ([],false)=some (F,L)))
   (fun _ _ i _ _ _=>n0 - (intOf i).toNat)
  case atStart=>exact⟨0,[],false,rfl,wa7 _,rfl,World.ownsRow_made (size:=2) w1 _ 0 (wab _) (by decide) (by decide),(Below.refl _ _).alloc (wab _) _,Lib.hid rfl⟩
  case round=>
   obtain⟨k,F,L,rfl,hk,rfl,hown,hbel,hst⟩:=hrel;have hbelw:Below w.heap.size w wr:=hb1.trans (hbel.mono hbs);by_cases hlt:k<n0
   ·have hkl:k<ls.length:=by rw[<-HN0.out];exact hlt
    obtain⟨g,o,rfl,hg,hrow⟩:=HR0.out.resolve_left (by omega);obtain⟨p,hp⟩:∃p:ByteArray,(⟨ls[k].toArray⟩:ByteArray)=p:=⟨_,rfl⟩;have hpl:p.data.toList=ls[k]:=by rw[<-hp]
    have hcell:=(hbel.cell (p:=⟨g,o+k,none⟩) hg).trans (hrow k _ (qe hkl));rw[hp]at hcell;have hgwr:g<wr.heap.size:=wad hg hbel.size;have hps:p.size<=10000:=by
     have:=HX.out ls[k] (wd5 _);rw[<-hpl]at this;exact this
    have hpne:p.data.toList≠[]:=by rw[hpl];exact HNE.out _ (wd5 _)
    have hpos:0<p.size:=by
     rcases wb7 p.size with h|h
     ·exact absurd (qz h) hpne
     ·exact h
    have hpm:p.size<=maxLen:=by unfold maxLen;omega
    have hLl:L=true\/(L=false/\(998:Int)<p.size)\/(L=false/\¬(998:Int)<p.size):=by
     rcases L with _|_
     ·by_cases h:(998:Int)<p.size
      ·exact .inr (.inl ⟨rfl,h⟩)
      ·exact .inr (.inr ⟨rfl,h⟩)
     ·exact .inl rfl
    have hbadV:za0 (F,L) p.data.toList=none->V=.form:=by
     intro h;rw[hpl]at h;rw[HV.out,yi6 ls k _ _ hkl hst.out h]
    have HPL:=Lib.hid hpl;have HBV:=Lib.hid hbadV;have HLL:=Lib.hid hLl;have HKL:=Lib.hid hkl;have HRW:=Lib.hid hrow;clear hp hpl hbadV hLl hrow hpne;have hhead:=z0i p hpos;rcases hsh:p.data.toList.all zeb with _|_
    ·have hVf:=HBV.out (zot hsh)
     have HSH:=Lib.hid hsh;subst hVf;clear hsh hhead;rcases HLL.out with rfl|⟨rfl,hll⟩|⟨rfl,hll⟩
     all_goals
      go_wp2_with(go_at_call 112;refine(zoy p false HSH.out _ hpm).mono ?_;rintro e w2 ⟨rfl,rfl⟩)
      go_ret3
      exact⟨rfl,hbelw⟩
    ·rcases hbl:za2 p[0]with _|_
     ·rw[hbl]at hhead
      have HSH:=Lib.hid hsh;have HBL:=Lib.hid hbl;rcases hco:zdb 58 p.data.toList with _|c
      ·have hVf:=HBV.out (zuc hhead hco)
       have hnc:∀j,(hj:j<p.size)->((p[j].toNat:Int) !=58)=true:=by
        intro j hj;have:=zxn hco j;rw[qe (show j<p.data.toList.length from hj)]at this;have h2:p[j]≠58:=fun h=>this (by rw[<-h];rfl)
        exact ne58 _ h2
       have HNC:=Lib.hid hnc;subst hVf;clear hsh hbl hhead hco hnc;rcases HLL.out with rfl|⟨rfl,hll⟩|⟨rfl,hll⟩
       all_goals
        go_wp2_with(first|(go_at_call 112;refine(zoy p true HSH.out _ hpm).mono ?_;rintro e w2 ⟨rfl,rfl⟩)|(go_at_call 113;refine(zoa _ false HBL.out _).mono ?_;rintro e w2 ⟨rfl,rfl⟩))
        go_loopw [12] (fun j w4=>∃d:Nat,j=.int .i64 d/\d<=p.size/\w4=wr) (fun j _=>p.size - (intOf j).toNat)
        case atStart=>exact⟨0,rfl,wa7 _,rfl⟩
        case round=>
         obtain⟨d,rfl,hd,rfl⟩:=hrel;by_cases hdl:d<p.size
         ·have hq:=HNC.out d hdl
          go_wp2;go_roundw
          case rel=>exact⟨d+1,by go_num,by omega,trivial⟩
          case measure=>simp[intOf];omega
         ·obtain rfl:d=p.size:=by omega
          go_wp2
          go_ret3
          exact⟨rfl,hbelw⟩
      ·have hcl:=zr1 hco
       rw[show p.data.toList.length=p.size from rfl]at hcl;have hnc:∀j,(hj:j<c)->((p[j].toNat:Int) !=58)=true:=by
        intro j hj;have:=zt6 hco j hj;rw[qe (show j<p.data.toList.length from Nat.lt_trans hj hcl)]at this;have h2:p[j]≠58:=fun h=>this (by rw[<-h];rfl)
        exact ne58 _ h2
       have hcc:((p[c].toNat:Int) !=58)=false:=by
        have:=zxm hco;rw[qe (show c<p.data.toList.length from hcl)]at this;have h2:p[c]=58:=wb9 this;rw[h2];rfl
       have HNC:=Lib.hid hnc;rcases hna:zji (p.data.toList.take c)with _|_
       ·have hVf:=HBV.out (zxv hhead hco hna)
        have HNA:=Lib.hid hna;subst hVf;clear hsh hbl hhead hco hnc hna;rcases HLL.out with rfl|⟨rfl,hll⟩|⟨rfl,hll⟩
        all_goals
         go_wp2_with(first|(go_at_call 112;refine(zoy p true HSH.out _ hpm).mono ?_;rintro e w2 ⟨rfl,rfl⟩)|(go_at_call 113;refine(zoa _ false HBL.out _).mono ?_;rintro e w2 ⟨rfl,rfl⟩))
         go_loopw [12] (fun j w4=>∃d:Nat,j=.int .i64 d/\d<=c/\w4=wr) (fun j _=>p.size - (intOf j).toNat)
         case atStart=>exact⟨0,rfl,wa7 _,rfl⟩
         case round=>
          obtain⟨d,rfl,hd,rfl⟩:=hrel;by_cases hdl:d<c
          ·have hdp:d<p.size:=by omega
           have hq:=HNC.out d hdl;go_wp2;go_roundw
           case rel=>exact⟨d+1,by go_num,by omega,trivial⟩
           case measure=>simp[intOf];omega
          ·obtain rfl:d=c:=by omega
           have hnl:((d:Int)==(p.size:Int))=false:=by rw[beq_eq_false_iff_ne];omega
           go_wp2_with(go_at_call 49;refine(ybo (p.extract 0 d) false (by rw[Lib.extract_data,wc8,wc2];exact HNA.out) _ (by rw[wee];unfold maxLen;omega)).mono ?_;rintro e w2 ⟨rfl,rfl⟩)
           go_ret3
           exact⟨rfl,hbelw⟩
       ·obtain⟨i0,hi0,hz0,hz1,hz2⟩:=info_parts ydt
        have hstep:=zs7 (st:=(F,L)) hsh hhead hco hna;have hnext:zbn (ls.take (k+1)) ([],false)=some (F++[(p.data.toList.take c,p.data.toList.drop (c+1))],L||decide (998<p.data.toList.length)):=by rw[ztd ls k _ _ HKL.out hst.out,<-HPL.out];exact hstep
        have hFl:F.length<=k:=by
         have:=zn4 _ _ _ hst.out;rw[wa2]at this;simp only[wdb,wbx]at this;omega
        have HNX:=Lib.hid hnext;have HNA:=Lib.hid hna;clear hsh hbl hhead hco hnc hna hstep hnext;rcases HLL.out with rfl|⟨rfl,hll⟩|⟨rfl,hll⟩
        all_goals
         go_wp2_with(first|(go_at_call 112;refine(zoy p true HSH.out _ hpm).mono ?_;rintro e w2 ⟨rfl,rfl⟩)|(go_at_call 113;refine(zoa _ false HBL.out _).mono ?_;rintro e w2 ⟨rfl,rfl⟩))
         go_loopw [12] (fun j w4=>∃d:Nat,j=.int .i64 d/\d<=c/\w4=wr) (fun j _=>p.size - (intOf j).toNat)
         case atStart=>exact⟨0,rfl,wa7 _,rfl⟩
         case round=>
          obtain⟨d,rfl,hd,rfl⟩:=hrel;by_cases hdl:d<c
          ·have hdp:d<p.size:=by omega
           have hq:=HNC.out d hdl;go_wp2;go_roundw
           case rel=>exact⟨d+1,by go_num,by omega,trivial⟩
           case measure=>simp[intOf];omega
          ·obtain rfl:d=c:=by omega
           have hnl:((d:Int)==(p.size:Int))=false:=by rw[beq_eq_false_iff_ne];omega
           go_wp2_with(go_at_call 49;refine(ybo (p.extract 0 d) true (by rw[Lib.extract_data,wc8,wc2];exact HNA.out) _ (by rw[wee];unfold maxLen;omega)).mono ?_;rintro e w2 ⟨rfl,rfl⟩)
           have hw1:IntKind.i64.wrap ((d:Int)+1)=(d:Int)+1:=IntWalk.i64_in _ (by omega);have hw2:(0:Int)<=(d:Int)+1:=by omega
           have hw3:((d:Int)+1).toNat=d+1:=by omega
           have hw4:(k:Int)<(n0:Int):=by omega
           have hw5:(0:Int)<=(d:Int):=by omega
           have hw6:(d:Int)<=(p.size:Int):=by omega
           have hw7:(d:Int)+1<=(p.size:Int):=by omega
           have hw8:(d:Int).toNat=d:=by omega
           have hfar:(u8:Value).ownBlock≠some g:=by
            intro e;have:=(hown.lt g e).1;omega
           obtain⟨X,hX⟩:∃X:ByteArray,p.extract 0 d=X:=⟨_,rfl⟩;obtain⟨Y,hY⟩:∃Y:ByteArray,p.extract (d+1) p.size=Y:=⟨_,rfl⟩;have hwb:w1.heap.size<=wr.heap.size:=hbel.size
           go_region_held3 (fun w'=>w'.cell? ⟨g,o+k,none⟩=some (.string p)) (first|go_keep|exact hcell|(rw[hgrow.cell_far _ (by simp;omega) (was hfar)];first|assumption|go_keep))
            ((refine step_append_lies _ (by rfl) _ _ _ (by rfl) w1.heap.size 41 i0 _ 2 32 Tryz.underlying33 hi0 hz0 hz1 hz2 rfl (by omega) u8 F.length (zan F) (by rfl) ((hown.alloc _).drew)
               ⟨wr.heap.size,0,none⟩ 1 1 [.string X,.string Y] (by rfl) (by rfl) (World.news_of_block (cs:=#[.string X,.string Y]) (t:=41) (fr:=(0,0)) (heap_alloc_new wr _)) (by simp[Value.oneCell'])
               (by omega) (by unfold maxLen;omega) (by omega) (by simp;omega) (wr.heap.size+1) (by simp) ?_;intro gg cap w5 hown5 hgrow hat hlt5))
           have HRO:=Lib.hid (yo8 hown5 (show X=⟨(p.data.toList.take d).toArray⟩ by rw[<-hX];exact yo6 _ _) (show Y=⟨(p.data.toList.drop (d+1)).toArray⟩ by rw[<-hY];exact yo7 _ _));have HBE:=Lib.hid (Below.grown (((hbel.alloc hwb _).drew)) hgrow (by simp;omega) (fun k h=>(hown.lt k h).1));clear hown5 hgrow hX hY;go_wp2;go_roundw
           case rel=>exact⟨k+1,F++[(p.data.toList.take d,p.data.toList.drop (d+1))],_,by go_num,by omega,yi7 _ p _ (by first|rfl|simp[*]),by rw[wb0];exact HRO.out,HBE.out,HNX⟩
           case measure=>simp[intOf];omega
     ·rw[hbl]at hhead
      have HSH:=Lib.hid hsh;have HBL:=Lib.hid hbl;have HH:=Lib.hid hhead;clear hsh hbl hhead;rcases wb7 k with h0|hk0
      ·have hF:F=[]:=by
        have:=hst.out;rw[h0]at this;simp[zbn]at this;exact this.1
       have hVf:=HBV.out (zpt HH.out hF);subst hVf;have hk0:((k:Int)==0)=true:=by rw[h0];rfl
       clear hF h0;rcases HLL.out with rfl|⟨rfl,hll⟩|⟨rfl,hll⟩
       all_goals
        go_wp2_with(first|(go_at_call 112;refine(zoy p true HSH.out _ hpm).mono ?_;rintro e w2 ⟨rfl,rfl⟩)|(go_at_call 113;refine(zoa _ true HBL.out _).mono ?_;rintro e w2 ⟨rfl,rfl⟩))
        go_ret3
        exact⟨rfl,hbelw⟩
      ·have hFne:F≠[]:=ybn _ _ _ hst.out (by intro h;have h2:=congrArg List.length h;rw[wa2,wdb]at h2;have:=HKL.out;omega)
       obtain⟨F0,q,rfl⟩:∃F0 q,F=F0++[q]:=⟨F.dropLast,F.getLast hFne,(List.dropLast_concat_getLast hFne).symm⟩;have hFl:(F0++[q]).length<=k:=by
        have:=zn4 _ _ _ hst.out;rw[wa2]at this;simp only[wdb,wbx]at this;omega
       have hqv:q.2.length<=10000* k:=by
        have:=zou _ _ _ 0 10000 hst.out (by simp) (fun l hl=>HX.out l (waj hl)) q (by simp);rw[wa2,wbx]at this;exact wac this (wb3 (wab _) (Nat.min_le_left _ _))
       obtain⟨m,hm0⟩:∃m,F0.length=m:=⟨_,rfl⟩;have hlen1:(F0++[q]).length=m+1:=by rw[wb0,hm0];rfl
       rw[hlen1,ze6]at hown;rw[hlen1]at hFl;obtain⟨gf,cap,rfl,hg0,hglt,hcap⟩:∃gf cap,u8=.slice (some ⟨gf,0,none⟩) (m+1) cap/\w1.heap.size<=gf/\gf<wr.heap.size/\m+1<=cap:=by
        rcases zov hown with⟨_,h⟩|⟨gf,cap,h⟩
        ·omega
        ·exact⟨gf,cap,h⟩
       have hcf:=hown.cellAt (m* 2+1) (by omega);rw[wbr (by rw[zcv];omega),zcv,hm0,show m* 2+1 - m* 2=1 by omega]at hcf;have hcf':wr.cell? ⟨gf,m* 2+1,none⟩=some (.string ⟨q.2.toArray⟩):=hcf;have hff:=hown.frozenAt (m* 2+1);have hqs:(ByteArray.mk q.2.toArray).size<=200000000:=by show q.2.length<=_;omega
       have hstep:=zs6 (st:=(F0++[q],L)) HSH.out HH.out rfl;have hnext:zbn (ls.take (k+1)) ([],false)=some (F0++[(q.1,q.2++p.data.toList)],L||decide (998<p.data.toList.length)):=by rw[ztd ls k _ _ HKL.out hst.out,<-HPL.out];exact hstep
       have HNX:=Lib.hid hnext;have HOWN:=Lib.hid hown;have HM:=Lib.hid hm0;have hk0':((k:Int)==0)=false:=by rw[beq_eq_false_iff_ne];omega
       have hml:m<=10000:=by omega
       clear hFne hlen1 hcf hown hstep hnext hm0 hk0;have hclq:=fun d os=>cell_regrown hcell d os
       have hcgq:=fun d os=>cell_regrown hcf' d os
       have hmi:(m:Int)<(m:Int)+1:=by omega
       rcases HLL.out with rfl|⟨rfl,hll⟩|⟨rfl,hll⟩
       all_goals
        go_wp2_with(first|(go_at_call 112;refine(zoy p true HSH.out _ hpm).mono ?_;rintro e w2 ⟨rfl,rfl⟩)|(go_at_call 113;refine(zoa _ true HBL.out _).mono ?_;rintro e w2 ⟨rfl,rfl⟩))
        (refine zgr 12 (by kernel_rfl) (by kernel_rfl) ?_;simp only[wag,List.take_zero];(repeat (first|go_big_quiet_skip|(go_big_quiet_want;go_big_quiet_op;first|go_big_quiet_on|(apply Exists.intro;refine⟨fun _=>?_,?_⟩;(·(fail));go_big_quiet_on))));refine wpQuiet_nil ?_;intro wq hbq;simp only[wah,wc8])
        have hcf5:=(hbq.cell (p:=⟨gf,m* 2+1,none⟩) hglt).trans hcf';have hff5:=(hbq.frozen (p:=⟨gf,m* 2+1,none⟩) hglt).trans hff;have HRO:=Lib.hid (yo5 (p:=p) (own_below HOWN.out hbq) HM.out);have HBE:=Lib.hid ((hbel.trans (hbq.mono hbel.size)).setCell (p:=⟨gf,m* 2+1,none⟩) hg0 (.string (⟨q.2.toArray⟩++p)));clear hclq hcgq hcell hcf' hff;go_wp2;go_roundw
        case rel=>exact⟨k+1,_,_,by go_num,by omega,yi7 _ p _ (by first|rfl|simp[*]),HRO.out,HBE.out,HNX⟩
        case measure=>simp[intOf];omega
   ·obtain rfl:k=n0:=by omega
    have hall:zbn ls ([],false)=some (F,L):=by
     have:=hst.out;rw[HN0.out,wds]at this;exact this
    have hFl:F.length<=10000:=by
     have:=zn4 _ _ _ hall;simp only[wdb,wbx]at this;omega
    have hFv:∀q∈F,q.2.length<=100000000:=by
     intro q hq;have:=zou _ _ _ 0 10000 hall (by simp) (fun l hl=>HX.out l hl) q hq;rw[wbx]at this;exact wac this (wb3 (wab _) hln)
    have hVV:=HV.out;rw[hall]at hVV;have HFV:=Lib.hid hFv;clear hall hFv;rcases L with _|_
    ·replace hVV:V=.ok (F.map fun p=>(p.1,trimB p.2)) at_:=hVV
     subst hVV;obtain⟨n,hn⟩:∃n,F.length=n:=⟨_,rfl⟩;rw[hn]at hown hFl;have HN:=Lib.hid hn;clear hn;obtain⟨a1,cap1,rfl,ha1⟩:∃a1 cap1,u8=.slice a1 n cap1/\(n=0\/∃g,a1=some ⟨g,0,none⟩/\w1.heap.size<=g/\g<wr.heap.size/\n<=cap1):=by
      rcases zov hown with⟨h,h0⟩|⟨g,cap,h,h1,h2,h3⟩
      ·exact⟨none,0,by rw[h,h0],.inl h0⟩
      ·exact⟨_,_,h,.inr ⟨g,rfl,h1,h2,h3⟩⟩
     have HA:=Lib.hid ha1;clear ha1;go_wp2
     go_loopw [13] (fun i w4=>∃j:Nat,i=.int .i64 j/\j<=n/\Hid (w4.ownsRow w1.heap.size 41 2 (.slice a1 n cap1) n (zan (zn9 F j)))/\Hid (Below w1.heap.size w1 w4))
      (fun i _=>n - (intOf i).toNat)
     case atStart=>exact⟨0,rfl,wa7 _,Lib.hid (by simpa[zn9]using hown),Lib.hid hbel⟩
     case round=>
      rename_i i4 w4;clear hown hbel hbelw;obtain⟨j,rfl,hj,HROW,HB⟩:=hrel;by_cases hlt2:j<n
      ·obtain⟨g,rfl,hg0,_,hcap⟩:=HA.out.resolve_left (by omega)
       have hjF:j<F.length:=by rw[HN.out];exact hlt2
       obtain⟨q,hq⟩:∃q,F[j]=q:=⟨_,rfl⟩;obtain⟨ht1,ht2,ht3⟩:=z6p F j hjF q hq;have hcell:=HROW.out.cellAt (j* 2+1) (by omega);rw[ht2]at hcell;have hfro:=HROW.out.frozenAt (j* 2+1);have hqs:(ByteArray.mk q.2.toArray).size<=1000000000:=by
        have:=HFV.out q (by rw[<-hq];exact wd5 _);show q.2.length<=_;omega
       have hji:(j:Int)<(n:Int):=by omega
       have hR:=(HROW.out.stored (j* 2+1) (.string ⟨(trimB q.2).toArray⟩)).1;rw[ht3]at hR;have HRO:=Lib.hid hR;have HBE:=Lib.hid (HB.out.setCell (p:=⟨g,j* 2+1,none⟩) hg0 (.string ⟨(trimB q.2).toArray⟩));clear ht1 ht2 ht3 hR
       go_wp2_with(go_at_call 114;refine(yom _ _ hqs).mono ?_;rintro e w5 ⟨rfl,rfl⟩)
       go_roundw
       case rel=>exact⟨j+1,by go_num,by omega,HRO,HBE⟩
       case measure=>simp[intOf];omega
      ·obtain rfl:j=n:=by omega
       go_wp2
       go_ret3
       refine⟨_,rfl,?_,hb1.trans (HB.out.mono hbs)⟩;have h:=yo9 HROW.out hbs;unfold zn9 at h;rw[wco (by rw[HN.out];exact wab _),wc0 (by rw[HN.out];exact wab _),wcf]at h;rw[wbt,HN.out];exact h
    ·replace hVV:V=.long:=hVV
     subst hVV;go_wp2
     go_ret3
     exact⟨rfl,hbelw⟩
end Go.Proofs.YtmpiobfdchlikaaGreatDoor
end
namespace Nun
open Go Go.RowKit Go.Proofs Go.Proofs.YtmpiobfdchlikaaGreatDoor
structure RowRes where
 cells:List Value
 n:Nat
 size:Nat
 e:TypeId
 ex:List Value
def y1s(P:Program)(Γ:Glob)(f:FuncId)(spec:List Value->Option RowRes):Prop:=zgz P f=true/\∀vs R,spec vs=some R->((∀v∈R.cells,zdi v=true/\v.oneCell'=true)/\(∀v∈R.ex,zdi v=true)/\R.ex≠[])/\∀w,Γ.G w->Calls P f vs.toArray w fun e w'=>∃v,e=.returned (.tuple (v::R.ex).toArray)/\w'.ownsRow w.heap.size R.e R.size v R.n R.cells/\Below w.heap.size w w'
def yi9(k:FuncId)(spec:List Value->Option RowRes):Nun.Callee:=fun f args bx oc=>match bx,oc with
 |[],[]=>if f=k then((zv7 args).bind spec).map fun R=>(.slc R.n (R.cells.map .flat)::R.ex.map .flat,false,[],[])else none
 |_,_=>none
theorem zx5{w:World}{Fr:Nat->Nat}{β:List Nat}:∀{l:List Value},(∀v∈l,zdi v=true)->Rds w Fr β (l.map .flat) l
 |[],_=>by simp[Rds]
 |v::l,h=>by
  simp only[wax,Rds];exact⟨v,l,rfl,by unfold Rd;exact⟨rfl,h v wcy⟩,zx5 fun x hx=>h x (wcw _ hx)⟩
theorem yja{P:Program}{Γ:Glob}{k:FuncId}{spec:List Value->Option RowRes}(hk:k≠yldF)(h:y1s P Γ k spec):zcj P Γ (yi9 k spec):=by
 intro f args bx oc vs' os bx' oc' he;unfold yi9 at he;split at he
 case h_2=>cases he
 split at he
 case isFalse=>cases he
 rename_i hf;subst hf;obtain⟨R,hR,he⟩:=qm he;cases he;obtain⟨us,hus,hsp⟩:=qb hR;obtain⟨h1,h2⟩:=h;obtain⟨⟨hc,hex,hne⟩,h4⟩:=h2 us R hsp;intro w Fr β vs hp;refine enters_of h1 hk ?_;obtain rfl:=zq2 hus hp.args;refine(h4 w hp.g).mono ?_;rintro e w' ⟨v,rfl,hown,hb⟩;obtain⟨Fr',hFr'⟩:∃F:Nat->Nat,F=fun g=>if v.ownBlock=some g then R.cells.length else Fr g:=⟨_,rfl⟩
 have hold:∀g,g<w.heap.size->Fr' g=Fr g:=fun g hg=>by
  rw[hFr'];dsimp only;rw[if_neg];intro e;have:=(hown.lt g e).1;omega
 obtain⟨Rl,hl⟩:=hp.rel.grow hb (Fr':=Fr') hold;have hrow:Rd w' Fr' β (.slc R.n (R.cells.map .flat)) v:=by
  simp only[Rd];have hlen:=hown.1;rcases hown.2 with⟨rfl,h0⟩|⟨g,cap,cur,rfl,hg,hcur,hnc,_⟩
  ·refine⟨none,0,by rw[h0],by omega,.inl ⟨?_,h0⟩⟩
   rw[h0,Nat.zero_mul]at hlen;rw[qz hlen];rfl
  ·refine⟨some ⟨g,0,none⟩,cap,rfl,hnc,.inr ⟨g,0,R.cells,rfl,fun j u hj=>?_,zx5 fun x hx=>(hc x hx).1,fun x hx=>(hc x hx).2⟩⟩
   have hjl:=(qg hj).1;refine⟨?_,?_⟩
   ·rw[hFr'];dsimp only
    rw[if_pos (show(Value.slice (some ⟨g,0,none⟩) R.n cap).ownBlock=some g from rfl)];omega
   ·rw[wbx,hown.cellAt j (by rw[<-hlen];exact hjl),hj]
 refine⟨_,Fr',β,rfl,?_,Rl,hl,(fun L h=>by cases h),fun h=>by cases h⟩;obtain⟨x,l,hxl⟩:=List.exists_cons_of_ne_nil hne;have ht:zef (.slc R.n (R.cells.map .flat)::R.ex.map .flat)=.tup (.slc R.n (R.cells.map .flat)::R.ex.map .flat):=by rw[hxl];rfl
 rw[ht];simp only[Rd,Rds];exact⟨v::R.ex,rfl,v,R.ex,rfl,hrow,zx5 hex⟩
def z0x:List Value->Option RowRes
 |[.string s]=>if s.size<=10000 then some (match zbu s.data.toList with
  | .form=>⟨[],0,2,41,[.int .i64 0,.int .i64 7]⟩
  | .long=>⟨[],0,2,41,[.int .i64 0,.int .i64 6]⟩
  | .ok l b=>⟨zan l,l.length,2,41,[.int .i64 b,.int .i64 0]⟩)else none
 |_=>none
theorem y1t{Γ:Glob}:y1s Tryz.prog Γ 61 z0x:=⟨by kernel_rfl,fun vs R h=>by
 unfold z0x at h;split at h
 ·rename_i s
  split at h
  ·rename_i hs
   obtain⟨V,hV⟩:∃V,zbu s.data.toList=V:=⟨_,rfl⟩;rw[hV]at h;have hc:=fun w=>yi8 s w hs V hV
   cases V with
   |form=>
    cases h;exact⟨⟨fun v h=>(by cases h),fun v h=>(by simp at h;rcases h with rfl|rfl<;>rfl),by simp⟩,fun w _=>(hc w).mono (by rintro e w' ⟨rfl,hb⟩;exact⟨_,rfl,wec _ _ _ _,hb⟩)⟩
   |long=>
    cases h;exact⟨⟨fun v h=>(by cases h),fun v h=>(by simp at h;rcases h with rfl|rfl<;>rfl),by simp⟩,fun w _=>(hc w).mono (by rintro e w' ⟨rfl,hb⟩;exact⟨_,rfl,wec _ _ _ _,hb⟩)⟩
   |ok l b=>
    cases h;refine⟨⟨fun v h=>?_,fun v h=>(by simp at h;rcases h with rfl|rfl<;>rfl),by simp⟩,fun w _=>(hc w).mono (by rintro e w' ⟨v,rfl,ho,hb⟩;exact⟨v,rfl,ho,hb⟩)⟩;have:∀l:List Fld,∀v∈zan l,zdi v=true/\v.oneCell'=true:=by
     intro l
     induction l with
     |nil=>intro v h;simp[zan]at h
     |cons a l ih=>
      intro v h;simp only[zan,List.flatMap_cons,wak,waq,wet,or_false]at h;rcases h with(rfl|rfl)|h
      ·exact⟨rfl,rfl⟩
      ·exact⟨rfl,rfl⟩
      ·exact ih v h
    exact this l v h
  ·cases h
 ·cases h⟩
end Nun
section
namespace Nun
open Go Go.RowKit Go.Proofs Go.Proofs.YtmpiobfdchlikaaGreatDoor
theorem z0y:∀F:List Fld,(zan F).map .flat=zbi F
 |[]=>rfl
 |(a,b)::l=>by show PV.flat (.string (S a))::PV.flat (.string (S b))::(zan l).map .flat=_;rw[z0y l];rfl
def m0:Mail:=⟨[97,64,98],[99,64,100],[120],[104,105,10],[60,112,62,104,105,60,47,112,62]⟩
def b1:Str:=[67,111,110,116,101,110,116,45,84,121,112,101,58,32,116,101,120,116,47,112,108,97,105,110,59,32,99,104,97,114,115,101,116,61,117,116,102,45,56,13,10,67,111,110,116,101,110,116,45,84,114,97,110,115,102,101,114,45,69,110,99,111,100,105,110,103,58,32,113,117,111,116,101,100,45,112,114,105,110,116,97,98,108,101,13,10,13,10,104,105,13,10]
def b2:Str:=[67,111,110,116,101,110,116,45,84,121,112,101,58,32,116,101,120,116,47,104,116,109,108,59,32,99,104,97,114,115,101,116,61,117,116,102,45,56,13,10,67,111,110,116,101,110,116,45,84,114,97,110,115,102,101,114,45,69,110,99,111,100,105,110,103,58,32,113,117,111,116,101,100,45,112,114,105,110,116,97,98,108,101,13,10,13,10,60,112,62,104,105,60,47,112,62]
def d0:Str:=[45,45,61,95,110,117,110,99,105,111,13,10]++b1++[13,10,45,45,61,95,110,117,110,99,105,111,13,10]++b2++[13,10,45,45,61,95,110,117,110,99,105,111,45,45,13,10]
def h0:List Str:=[[70,114,111,109,58,32,97,64,98],[84,111,58,32,99,64,100],[83,117,98,106,101,99,116,58,32,120],z52,zua]
def t0:Str:=zaz h0++13::10::d0
theorem chk0:zja m0=0:=by decide+kernel
theorem res0:resB zbr (encL 0) m0=t0:=by decide+kernel
theorem spl0:zbu t0=.ok (zk9 [97,64,98] [99,64,100] [120]) ((zaz h0).length+2):=
 zha h0 d0 [(zkl,[32,97,64,98]),(toS,[32,99,64,100]),(zn1,[32,120]),([77,73,77,69,45,86,101,114,115,105,111,110],[32,49,46,48]),(ctN,32::zk8)] (by decide+kernel) (by decide+kernel)
theorem spl1:zbu b1=.ok (zda zbb) 88:=
 zha [ctS++zbb++csS,cteS] [104,105,13,10] [(ctN,32::valU zbb),(cteN,32::qpN)] (by decide+kernel) (by decide+kernel)
theorem spl2:zbu b2=.ok (zda zci) 87:=
 zha [ctS++zci++csS,cteS] [60,112,62,104,105,60,47,112,62] [(ctN,32::valU zci),(cteN,32::qpN)] (by decide+kernel) (by decide+kernel)
variable {lib:Callee}
theorem bod0:evW code lib 67 [.flat (.string (S d0)),.flat (.string (S zh7))] [] []=some ([.slc 2 [.flat (.string (S b1)),.flat (.string (S b2))],.flat (.bool true)],false,[],[]):=by
 rw[yhw d0 zh7 (by decide+kernel) (by decide+kernel),show z8b d0 zh7=some ([b1,b2],true) by decide+kernel];rfl
theorem sai1:evW code lib 66 [.flat (.string (S (b1.drop 88))),.flat (.string (S qpN))] [] []=some ([.flat (.string (S [104,105,10])),.flat (.bool true)],false,[],[]):=kev (by kernel_rfl)
theorem sai2:evW code lib 66 [.flat (.string (S (b2.drop 87))),.flat (.string (S qpN))] [] []=some ([.flat (.string (S [60,112,62,104,105,60,47,112,62])),.flat (.bool true)],false,[],[]):=kev (by kernel_rfl)
theorem y3l:t0.drop ((zaz h0).length+2)=d0:=by decide+kernel
end Nun
end
namespace Nun
open Go Go.RowKit Go.Proofs Go.Proofs.YtmpiobfdchlikaaGreatDoor
variable {lib:Callee}
theorem ydu{s ty tx:Str}{fs ps:List PV}{k j n:Nat}(h1:zcd fs=true)(h2:zcd ps=true)(h3:∀n,lows n fs=true)(h4:∀n,lows n ps=true)
 (h:evW code lib 37 [.flat (.string (S s)),.flat (.int .i64 0),.flat (.int .i64 0)] [] []=some ([.agg [.slc k fs,.flat (.string (S ty)),.flat (.string (S tx)),.slc j ps],.flat (.int .i64 (n:Nat)),.flat (.int .i64 0)],false,[],[])):
 evW code lib 16 [.flat (.string (S s))] [] []=some ([.agg [.slc k fs,.flat (.string (S ty)),.flat (.string (S tx)),.slc j ps],.flat (.int .i64 0)],false,[],[]):=by
 refine zab zyu (qa rfl) ?_;simp(maxSteps:=999999) (disch:=first|assumption|omega) only[go_sem,simprocAttr,au,h,h1,h2,h3,h4]
theorem y1u(HS:zor lib):evW code lib 16 [.flat (.string (S t0))] [] []=some ([.agg (z0g (zk9 [97,64,98] [99,64,100] [120]) zjz (zuz (zda zbb) (zfe zbb) [104,105,10] 0 []) (zuz (zda zci) (zfe zci) [60,112,62,104,105,60,47,112,62] 0 [])),.flat (.int .i64 0)],false,[],[]):=by
 have h:=yid (lib:=lib) HS t0 b1 b2 [104,105,10] [60,112,62,104,105,60,47,112,62] _ _ _ _ (by decide+kernel) spl0 (by decide+kernel) (by rw[y3l];exact bod0)
  (z53 HS (.inl rfl) b1 _ _ 1 2 (by decide+kernel) spl1 (by decide+kernel) sai1) (z53 HS (.inr rfl) b2 _ _ 1 2 (by decide+kernel) spl2 (by decide+kernel) sai2)
 refine ydu (n:=2) (zcu _) ?_ (fun n=>zb5 _) (fun n=>?_) h
 ·simp only[z0g,zuz,zcd,PV.noPtr,zcu,wai,wa5,wbi]
 ·simp only[z0g,zuz,lows,PV.low,zcd,PV.noPtr,zcu,zb5,wai,wa5,wbi]
theorem y1v(HE:zju lib zbr)(HQ:z8g lib (encL 0))(HI:zf2 lib)(HL:zqh lib)(HC:zxk lib)(HP:zcz lib)(HB:zgp lib)(HN:zqi lib)(HS:zor lib):evW code lib 15 [] [] []=some ([.flat (.bool true)],false,[],[]):=by
 have e1:=z2x HE HQ HI HL HC HP HB HN m0 ⟨by decide,by decide,by decide,by decide,by decide⟩;rw[res0,chk0]at e1;have e2:=y1u HS;simp only[zie,m0]at e1;have hl1:(zk9 [97,64,98] [99,64,100] [120]).length=5:=rfl;have hl2:(zda zbb).length=2:=rfl;have hl3:(zda zci).length=2:=rfl;have hnp1:=zcu (zk9 [97,64,98] [99,64,100] [120]);have hnp2:=zcu (zda zbb);have hnp3:=zcu (zda zci);simp only[zuz,z0g,hl1,hl2,hl3]at e2;refine zab zms (qa rfl) ?_;generalize t0=t at*;generalize zfe zbb=ty1 at*;generalize zfe zci=ty2 at*;generalize zjz=ty at*;generalize zbi (zk9 [97,64,98] [99,64,100] [120])=fm at*;generalize zbi (zda zbb)=fp at*;generalize zbi (zda zci)=fh at*;simp(maxSteps:=999999) (disch:=first|assumption|omega) only[go_sem,simprocAttr,au,e1,e2,hnp1,hnp2,hnp3]
theorem zr9(s:Str)(hs:s.length<=9223372036854775807):evW code lib 9 [.flat (.string (S s))] [] []=some ([.flat (.string (S (s.take 250)))],false,[],[]):=by
 refine zab zo1 (qa rfl) ?_;by_cases h:s.length<=250
 ·have e:min (s.length:Int) 250=s.length:=by omega
  rw[wco h];simp(maxSteps:=999999) (disch:=first|assumption|omega) only[go_sem,simprocAttr,au,e]
 ·have e:min (s.length:Int) 250=250:=by omega
  have e2:(250:Int).toNat=250:=rfl;simp(maxSteps:=999999) (disch:=first|assumption|omega) only[go_sem,simprocAttr,au,e,e2]
def Mail.short(m:Mail):Mail:=⟨m.fr.take 250,m.to.take 250,m.su.take 250,m.te.take 250,m.ht.take 250⟩
theorem zx6(m:Mail):m.short.small:=by
 unfold Mail.short Mail.small;simp only[wa2];omega
theorem ydv(m:Mail)(h1:m.fr.length<=9223372036854775807)(h2:m.to.length<=9223372036854775807)(h3:m.su.length<=9223372036854775807)(h4:m.te.length<=9223372036854775807)(h5:m.ht.length<=9223372036854775807):evW code lib 8 [.agg (zie m)] [] []=some ([.agg (zie m.short)],false,[],[]):=by
 have f1:=zr9 (lib:=lib) m.fr h1;have f2:=zr9 (lib:=lib) m.to h2;have f3:=zr9 (lib:=lib) m.su h3;have f4:=zr9 (lib:=lib) m.te h4;have f5:=zr9 (lib:=lib) m.ht h5;simp only[zie,Mail.short];refine zab zmr (qa rfl) ?_;have hz0:(⟨#[]⟩:ByteArray)=S []:=rfl;simp(maxSteps:=999999) (disch:=first|assumption|omega) only[go_sem,simprocAttr,au,hz0,f1,f2,f3,f4,f5]def Mail.few (m:Mail):Prop:=m.fr.length<=250/\m.to.length<=250/\m.su.length<=250/\m.te.length<=250/\m.ht.length<=250
theorem yjb(m:Mail):m.short.few:=by
 unfold Mail.short Mail.few;simp only[wa2];omega
theorem zte(A B:List Str)(st:List Fld×Bool):zbn (A++B) st=(zbn A st).bind (zbn B):=by
 unfold zbn;rw[List.foldlM_append];rfl
def ydw:Str:=[77,73,77,69,45,86,101,114,115,105,111,110]
def zyy(m:Mail):List Str:=z8l zbr zkl m.fr++(z8l zbr toS m.to++(z8l zbr zn1 m.su++[z52,zua]))
def zo8(kind s:Str):Str:=zaz [ctS++kind++csS,cteS]++13::10::encL 0 s
def ydx(m:Mail):Str:=zk7 zh7++(zo8 zbb m.te++(zny zh7++(zo8 zci m.ht++endB zh7)))
theorem z3m(m:Mail):zn2 zbr (encL 0) m=zaz (zyy m)++13::10::ydx m:=by
 unfold zn2 zyy ydx zo8;rw[zmb,zmb,zmb,zhb,zhb,zhb];simp[zo7,zaz,crlf,zk7,zny,endB,yoj,zh7,endS,wa4]
def rawV(v:Str):Str:=spcW (zd3 zbr v)
def valW(v:Str):Str:=trimB (rawV v)
theorem yv0(m:Mail):(∀x∈zyy m,okLn x/\x≠[])/\zbn (zyy m) ([],false)=some ([(zkl,rawV m.fr),(toS,rawV m.to),(zn1,rawV m.su),(ydw,[32,49,46,48]),(ctN,32::zk8)],false):=by
 obtain⟨a1,a2⟩:=z27 (enc:=zbr) (v:=m.fr) (f:=zkl) [] (by decide) (by decide) fun x hx=>zr6 m.fr x hx
 obtain⟨b1,b2⟩:=z27 (enc:=zbr) (v:=m.to) (f:=toS) [(zkl,rawV m.fr)] (by decide) (by decide) fun x hx=>zr6 m.to x hx
 obtain⟨c1,c2⟩:=z27 (enc:=zbr) (v:=m.su) (f:=zn1) [(zkl,rawV m.fr),(toS,rawV m.to)] (by decide) (by decide) fun x hx=>zr6 m.su x hx
 refine⟨fun x hx=>?_,?_⟩
 ·unfold zyy at hx
  rcases wak.1 hx with hx|hx
  ·exact a1 x hx
  rcases wak.1 hx with hx|hx
  ·exact b1 x hx
  rcases wak.1 hx with hx|hx
  ·exact c1 x hx
  rcases waq.1 hx with rfl|hx
  ·exact⟨⟨by decide,by decide⟩,by decide⟩
  ·rw[wbn.1 hx];exact⟨⟨by decide,by decide⟩,by decide⟩
 ·unfold zyy
  rw[zte,a2,wat,zte];show(zbn _ ([(zkl,rawV m.fr)],false)).bind _=_;rw[b2,wat,zte];show(zbn _ ([(zkl,rawV m.fr),(toS,rawV m.to)],false)).bind _=_;rw[c2,wat];have h1:=zs8 (f:=ydw) (r:=[32,49,46,48]) (F:=[(zkl,rawV m.fr),(toS,rawV m.to),(zn1,rawV m.su)]) (by decide) ⟨by decide,by decide⟩;have h2:=zs8 (f:=ctN) (r:=32::zk8) (F:=[(zkl,rawV m.fr),(toS,rawV m.to),(zn1,rawV m.su),(ydw,[32,49,46,48])]) (by decide) ⟨by decide,by decide⟩;rw[zbn,wed];show(za0 ([(zkl,rawV m.fr),(toS,rawV m.to),(zn1,rawV m.su)],false) (ydw++58::[32,49,46,48])).bind _=_;rw[h1];show(List.foldlM za0 ([(zkl,rawV m.fr),(toS,rawV m.to),(zn1,rawV m.su),(ydw,[32,49,46,48])],false) [ctN++58::(32::zk8)])=_;rw[wed,h2];rfl
theorem y3m{x:Str}(h:okLn x):∀c∈x,c≠13:=fun c hc=>y1b c (wa9.1 h.2 c hc)
theorem ydy(m:Mail):zbu (zn2 zbr (encL 0) m)=.ok (zk9 (valW m.fr) (valW m.to) (valW m.su)) ((zaz (zyy m)).length+2):=by
 obtain⟨h1,h2⟩:=yv0 m;rw[z3m,zha (zyy m) (ydx m) _ (fun x hx=>⟨(h1 x hx).2,y3m (h1 x hx).1⟩) h2];have e1:trimB [32,49,46,48]=[49,46,48]:=by decide+kernel
 have e2:trimB (32::zk8)=zk8:=by decide+kernel
 simp only[wax,wc7,e1,e2,zk9,ydw,valW]
theorem z83(s:Str):zbu (zo8 zbb s)=.ok (zda zbb) ((zaz [ctS++zbb++csS,cteS]).length+2):=
 zha [ctS++zbb++csS,cteS] (encL 0 s) [(ctN,32::valU zbb),(cteN,32::qpN)] (by decide+kernel) (by decide+kernel)
theorem ydz(s:Str):zbu (zo8 zci s)=.ok (zda zci) ((zaz [ctS++zci++csS,cteS]).length+2):=
 zha [ctS++zci++csS,cteS] (encL 0 s) [(ctN,32::valU zci),(cteN,32::qpN)] (by decide+kernel) (by decide+kernel)
theorem zx7(a:Str)(r:Str):(a++13::10::r).drop (a.length+2)=r:=by
 rw[List.drop_append];simp
theorem z6q{kind s:Str}(hk:kind=zbb\/kind=zci):noEq (zo8 kind s)=true:=by
 unfold zo8;have h:(zaz [ctS++kind++csS,cteS]++[13,10])++encL 0 s=zaz [ctS++kind++csS,cteS]++13::10::encL 0 s:=by simp
 rw[<-h];refine yay _ _ ?_ (zvg s 0) (.inl ?_)
 ·rcases hk with rfl|rfl<;>decide+kernel
 ·rcases hk with rfl|rfl<;>decide+kernel
theorem z6r{kind s:Str}(hk:kind=zbb\/kind=zci)(hs:s.length<=250):(zo8 kind s).length<=1600:=by
 have:=zlc s 0;have h:(zaz [ctS++kind++csS,cteS]).length<=90:=by rcases hk with rfl|rfl<;>decide+kernel
 unfold zo8;simp only[wb0,waf];omega
theorem z6s(m:Mail)(hm:m.few):(zn2 zbr (encL 0) m).length<=10000:=by
 obtain⟨h1,h2,h3,h4,h5⟩:=hm;have a:=z3d zkl m.fr h1 (by decide);have b:=z3d toS m.to h2 (by decide);have c:=z3d zn1 m.su h3 (by decide);have d:=z6r (kind:=zbb) (.inl rfl) h4;have e:=z6r (kind:=zci) (.inr rfl) h5;rw[z3m];rw[zmb]at a b c;have l1:(zaz [z52,zua]).length<=100:=by decide+kernel
 have l2:(zk7 zh7).length=12:=by decide
 have l3:(zny zh7).length=14:=by decide
 have l4:(endB zh7).length=16:=by decide
 unfold zyy ydx;simp only[zhb,wb0,waf,l2,l3,l4]at*;omega
end Nun
namespace Nun
open Go Go.RowKit Go.Proofs Go.Proofs.YtmpiobfdchlikaaGreatDoor
theorem ybp{c:UInt8}:∀r:Str,c∉r->Lib.index r [c]=-1
 |[],_=>rfl
 |a::r,h=>by
  simp only[waq,not_or]at h;have h0:([c]:Str).isPrefixOf (a::r)=false:=by simp[List.isPrefixOf,h.1]
  unfold Lib.index;rw[h0,ybp r h.2];rfl
theorem y1w{c d:UInt8}{r:Str}(h:c∉r):Lib.replaceAll r [c] [d]=r:=by
 have hi:=ybp r h;unfold Lib.replaceAll Lib.replace;split
 ·rfl
 ·cases Lib.replaceNum r [c] (-1)with
  |zero=>rfl
  |succ k=>unfold Lib.replaceK;rw[hi];rfl
def zqq(v:Str):Str:=[88,58,32]++v++[13,10]
theorem ztf(v:Str)(h:∀c∈v,c≠13/\c≠10/\c≠9):z3j (zqq v)=([88],rdU zh1 (32::v),0):=by
 have h1:([13,10]:Str).isSuffixOf (zqq v)=true:=by rw[List.isSuffixOf_iff_suffix];exact List.suffix_append _ _
 have h2:(zqq v).take ((zqq v).length - 2)=[88,58,32]++v:=by
  unfold zqq;exact List.take_left' (by simp)
 have h3:lnU ([88,58,32]++v)=some ([88,58,32]++v):=yi4 _ fun c hc=>by
  rcases wak.1 hc with hc|hc
  ·simp only[waq,wet,or_false]at hc
   rcases hc with rfl|rfl|rfl<;>decide
  ·exact⟨(h c hc).1,(h c hc).2.1⟩
 have h4:Lib.cut ([88,58,32]++v) [58]=([88],32::v,true):=by
  rw[z2t,show zdb 58 ([88,58,32]++v)=some 1 from zqo [88] (32::v) (by decide)];rfl
 unfold z3j;rw[if_pos h1,h2,h3];dsimp only;rw[h4];have h5:zo5 [88]=true:=by decide+kernel
 dsimp only;rw[h5,y1w (by
  simp only[waq,not_or];exact⟨by decide,fun k=>(h 9 k).2.2 rfl⟩)]
 rfl
theorem zsa{p:UInt8->Bool}{c:UInt8}:∀{l:Str},c∈l.dropWhile p->c∈l:=fun h=>(List.dropWhile_suffix p).subset h
theorem ypa{l:Str}{c:UInt8}(h:c∈trimB l):c∈l:=by
 unfold trimB zdp at h;rw[List.mem_reverse]at h;have:=zsa h;rw[List.mem_reverse]at this;exact zsa this
theorem val_ok(v:Str):∀c∈valW v,c≠13/\c≠10/\c≠9:=by
 intro c hc;have hc:=ypa hc;have hs:∀c:UInt8,shB c=true->c≠13/\c≠10/\c≠9:=by decide+kernel
 apply hs;unfold rawV spcW at hc;obtain⟨w,hw,hc⟩:=wce.1 hc;rcases waq.1 hc with rfl|hc
 ·decide
 ·exact wa9.1 (zr6 v w hw).2 c hc
theorem yd0{s w:Str}:∀(k:Nat)(l:Str),s.drop k=l->k<=s.length->zd4 l w=false->zav s w k=false\/l=[]
 |k,[],_,_,_=>.inr rfl
 |k,c::l,h,hk,hs=>by
  rw[zd4,wd4]at hs;unfold zav;rw[h,hs.1,wdc];exact .inl rfl
theorem ybq(s:Str):∀(l:Str)(k:Nat),s.drop k=l->l.all okA=true->zd4 l [61,63]=false->k+l.length<=60->goP s k k l=some (k+l.length)
 |[],k,_,_,_,_=>by rw[goP];rfl
 |c::l,k,h,ha,hs,hl=>by
  have hk:k<=s.length:=by
   rcases wcn s.length k with h'|h'
   ·rw[wc0 (by omega)]at h;cases h
   ·exact h'
  have hb:=(yd0 k _ h hk hs).resolve_right (by simp);rw[wcg,wb1]at ha;have hc:∀c:UInt8,okA c=true->32<c.toNat/\c.toNat<=126:=by decide+kernel
  obtain⟨c1,c2⟩:=hc c ha.1;rw[zd4,wd4]at hs;simp only[waf]at hl⊢;have e1:z5a s k c k=false:=by
   unfold z5a;rw[hb,decide_eq_false (by omega:¬c.toNat=32),decide_eq_false (by omega:¬c.toNat<32),decide_eq_false (by omega:¬126<c.toNat)];rfl
  have e2:zrv c k=k+1:=by unfold zrv;rw[if_neg (by omega)]
  rw[goP,e1,e2,decide_eq_false (by omega),Bool.or_self,if_neg (by decide),ybq s l (k+1) (by rw[<-wbd,h];rfl) ha.2 hs.2 (by omega)];congr 1;omega
theorem z0z{s:Str}(h:zuw s=true):znu s=true:=by
 unfold zuw at h;simp only[wb1,wb2,wd4,decide_eq_false_iff_not]at h;obtain⟨⟨h1,h2,_,_,h3⟩,h4,_⟩:=h;have hg:=ybq s s 0 rfl h4 h3 (by omega);unfold znu;rw[hg];have:0<0+s.length:=by omega
 simp only[decide_eq_true this,wdx]
theorem yd1{m:Mail}(h:zja m=0):rdU zh1 (32::valW m.fr)=m.fr/\rdU zh1 (32::valW m.to)=m.to/\rdU zh1 (32::valW m.su)=m.su:=by
 unfold zja at h;split at h
 ·cases h
 ·rename_i ha
  rw[Bool.and_eq_false_iff,not_or,Bool.not_eq_false,Bool.not_eq_false]at ha;split at h
  ·rename_i hc
   exact⟨z3f _ (.inl (z0z ha.1)),z3f _ (.inl (z0z ha.2)),z3f _ (.inr hc.1)⟩
  ·cases h
theorem z84{m:Mail}(h:zja m=0):z3j (zqq (valW m.fr))=([88],m.fr,0)/\z3j (zqq (valW m.to))=([88],m.to,0)/\z3j (zqq (valW m.su))=([88],m.su,0):=by
 obtain⟨h1,h2,h3⟩:=yd1 h;exact⟨by rw[ztf _ (val_ok _),h1],by rw[ztf _ (val_ok _),h2],by rw[ztf _ (val_ok _),h3]⟩
end Nun
namespace Nun
open Go
theorem z6t{l:List UInt8}{k n:Nat}(h:crAt l=some k)(hn:k+2<=n)(m:List UInt8):crAt (l.take n++m)=some k:=by
 have hl:=zh0 h;have e:∀i:Nat,i<k+2->(l.take n++m)[i]?=l[i]?:=fun i hi=>by
  rw[waa (by rw[wa2];omega),wbz (by omega)]
 have h1:=zr0 h;refine yu3 ⟨by rw[e k (by omega)];exact h1.1,by rw[e (k+1) (by omega)];exact h1.2⟩ fun i hi=>?_
 rw[e i (by omega),e (i+1) (by omega)];exact zop h i hi
theorem ypb(n:Nat):∀(l:List UInt8)(a:Nat)(st:List Fld×Bool)(f:List Fld)(t:Bool)(b:Nat),l.length<=n->zb7 (itL l a) st=some (f,t,b)->
 a+2<=b/\b<=a+l.length/\∀m,zb7 (itL (l.take (b - a)++m) a) st=some (f,t,b):=by
 induction n with
 |zero=>
  intro l a st f t b hl h;rw[qz (l:=l) (by omega),zfo rfl]at h;cases h
 |succ n ih=>
  intro l a st f t b hl h;rcases hc:crAt l with _|k
  ·rw[zfo hc]at h;cases h
  ·have hlt:=zh0 hc
   rw[zhg hc,zb7]at h;by_cases hk:k=0
   ·subst hk
    rw[if_pos (by simp)]at h;cases h;refine⟨by omega,by omega,fun m=>?_⟩;rw[zhg (z6t hc (by omega) m),zb7,if_pos (by simp)]
   ·have hne:l.take k≠[]:=by
     intro h0;have:=congrArg List.length h0;rw[wa2,wdb]at this;omega
    rw[if_neg hne,if_neg hk]at h;rcases hs:za0 st (l.take k)with _|st'
    ·rw[hs]at h;cases h
    ·rw[hs]at h
     obtain⟨h1,h2,h3⟩:=ih (l.drop (k+2)) (a+k+2) st' f t b (by rw[wbc];omega) h;rw[wbc]at h2;refine⟨by omega,by omega,fun m=>?_⟩;have hd:(l.take (b - a)++m).drop (k+2)=(l.drop (k+2)).take (b - (a+k+2))++m:=by
      rw[List.drop_append_of_le_length (by rw[wa2];omega),wdg,show b - a - (k+2)=b - (a+k+2) by omega]
     have ht:(l.take (b - a)++m).take k=l.take k:=by
      rw[wcz (by rw[wa2];omega),List.take_take,Nat.min_eq_left (by omega)]
     rw[zhg (z6t hc (by omega) m),zb7,ht,if_neg hne,if_neg hk,hs,hd];exact h3 m
theorem yd2{l:List UInt8}{F:List Fld}{b:Nat}(h:zbu l=.ok F b):b<=l.length/\∀m,zbu (l.take b++m)=.ok F b:=by
 unfold zbu at h⊢;rcases hr:zb7 (itL l 0) ([],false)with _|⟨f,_|_,b'⟩
 ·rw[hr]at h;cases h
 ·rw[hr]at h;cases h
  obtain⟨_,h2,h3⟩:=ypb _ l 0 _ _ _ _ (wab _) hr;exact⟨by omega,fun m=>by have h4:=h3 m;rw[wc2]at h4;rw[h4]⟩
 ·rw[hr]at h;cases h
theorem zx8:∀(xs:List (List UInt8×Nat))(st:List Fld×Bool)(f:List Fld)(t:Bool)(b:Nat),zb7 xs st=some (f,t,b)->f.length<=st.1.length+xs.length
 |[],_,_,_,_,h=>by cases h
 |(ln,a)::r,st,f,t,b,h=>by
  rw[zb7]at h;by_cases hl:ln=[]
  ·rw[if_pos hl]at h;cases h;exact Nat.le_add_right _ _
  ·rw[if_neg hl]at h
   rcases hs:za0 st ln with _|st'
   ·rw[hs]at h;cases h
   ·rw[hs]at h
    have h1:=zx8 r st' f t b h;have h2:st'.1.length<=st.1.length+1:=by
     unfold za0 at hs;split at hs
     ·cases hs
     ·split at hs
      ·split at hs
       ·cases hs
       ·cases hs
        simp
      ·split at hs
       ·cases hs
       ·split at hs
        ·cases hs;simp
        ·cases hs
    rw[waf];omega
theorem yd3{l:List UInt8}{F:List Fld}{b:Nat}(h:zbu l=.ok F b):F.length<=l.length:=by
 unfold zbu at h;rcases hr:zb7 (itL l 0) ([],false)with _|⟨f,_|_,b'⟩
 ·rw[hr]at h;cases h
 ·rw[hr]at h;cases h
  have h1:=zx8 _ _ _ _ _ hr;have h2:=zxo _ l 0 (wab _);rw[wbt];simp only[wdb]at h1;omega
 ·rw[hr]at h;cases h
def wF:List Fld->Nat
 |[]=>0
 |f::l=>f.1.length+f.2.length+wF l
theorem yjc:∀a b:List Fld,wF (a++b)=wF a+wF b
 |[],b=>by simp[wF]
 |f::a,b=>by simp only[wai,wF,yjc a b];omega
theorem yqq:∀{F:List Fld}{f:Fld},f∈F->f.1.length+f.2.length<=wF F
 |g::l,f,h=>by
  rcases waq.1 h with rfl|h
  ·simp only[wF];omega
  ·have:=yqq h;simp only[wF];omega
theorem yv1{st st':List Fld×Bool}{l:List UInt8}(h:za0 st l=some st'):wF st'.1<=wF st.1+l.length:=by
 unfold za0 at h;split at h
 ·cases h
 split at h
 ·split at h
  ·cases h
  ·rename_i p hp
   cases h;have:st.1=st.1.dropLast++[p]:=by
    have hne:st.1≠[]:=by intro e;rw[e]at hp;cases hp
    have h2:=List.dropLast_concat_getLast hne;rw[List.getLast?_eq_some_getLast hne]at hp;cases hp;exact h2.symm
   rw[this];simp only[weu,yjc,wF,wb0];omega
 ·split at h
  ·cases h
  ·split at h
   ·cases h
    simp only[yjc,wF,wa2,wbc];omega
   ·cases h
def wI:List (List UInt8×Nat)->Nat
 |[]=>0
 |x::l=>x.1.length+wI l
theorem yqr:∀(xs:List (List UInt8×Nat))(st:List Fld×Bool)(f:List Fld)(t:Bool)(b:Nat),zb7 xs st=some (f,t,b)->wF f<=wF st.1+wI xs
 |[],st,f,t,b,h=>by cases h
 |(ln,a)::r,st,f,t,b,h=>by
  rw[zb7]at h;split at h
  ·cases h;omega
  ·split at h
   ·cases h
   ·rename_i s1 h1
    have h2:=yqr r s1 f t b h;have h3:=yv1 h1;simp only[wI];omega
theorem y1x(n:Nat):∀(l:List UInt8)(a:Nat),l.length<=n->wI (itL l a)<=l.length:=by
 induction n with
 |zero=>
  intro l a h;rw[qz (l:=l) (by omega),zfo rfl];simp[wI]
 |succ n ih=>
  intro l a h;rcases hc:crAt l with _|k
  ·rw[zfo hc];simp[wI]
  ·have:=zh0 hc
   rw[zhg hc,wI,wa2];by_cases hk:k=0
   ·rw[if_pos hk];simp[wI];omega
   ·rw[if_neg hk]
    have h2:=ih (l.drop (k+2)) (a+k+2) (by rw[wbc];omega);rw[wbc]at h2;omega
theorem z6u(l:List UInt8):(trimB l).length<=l.length:=by
 unfold trimB zdp;rw[List.length_reverse];have h1:=zmd za2 (l.dropWhile za2).reverse;have h2:=zmd za2 l;rw[List.length_reverse]at h1;omega
theorem yjd:∀F:List Fld,wF (F.map fun p=>(p.1,trimB p.2))<=wF F
 |[]=>wab _
 |f::F=>by
  have h1:=yjd F;have h2:=z6u f.2;simp only[wax,wF];omega
theorem ypc{l:List UInt8}{F:List Fld}{b:Nat}(h:zbu l=.ok F b):wF F<=l.length:=by
 unfold zbu at h;split at h
 ·cases h
 ·cases h
 ·rename_i f b' hr
  cases h;have h1:=yqr _ _ _ _ _ hr;have h2:=y1x _ l 0 (wab _);have h3:=yjd f;simp only[wF]at h1;omega
theorem zx9{l:List UInt8}{F:List Fld}{b:Nat}(h:zbu l=.ok F b)(hl:l.length<=1000000):zx2 F/\b<=l.length/\∀f∈F,f.1.length<=l.length/\f.2.length<=l.length:=by
 have h1:=ypc h;have h2:=yd3 h;refine⟨⟨by omega,fun f hf=>?_⟩,(yd2 h).1,fun f hf=>?_⟩<;>(have:=yqq hf;omega)
theorem zoz{n:Str}{k:Nat}:∀(F:List Fld)(q:Str×Nat),q.1.length<=k->(∀f∈F,f.2.length<=k)->(getS n F q).1.length<=k
 |[],q,h,_=>h
 |(a,b)::F,q,h,hF=>by
  rw[getS];split
  ·refine zoz F _ ?_ fun f hf=>hF f (by simp[hf])
   dsimp only;split
   ·exact hF (a,b) (by simp)
   ·exact h
  ·exact zoz F _ h fun f hf=>hF f (by simp[hf])
theorem z6v{n:Nat}:∀{a b:List PV},lows n (a++b)=(lows n a&&lows n b)
 |[],b=>by simp[lows]
 |v::a,b=>by simp only[wai,lows,z6v (a:=a),wbb]
inductive LP where
 | mk (F:List Fld) (ty tx:Str) (ps:List LP)
mutual
def LP.cells:LP->List PV
 | .mk F ty tx ps=>[.slc F.length (zbi F),.flat (.string (S ty)),.flat (.string (S tx)),.slc ps.length (zeq ps)]
def zeq:List LP->List PV
 |[]=>[]
 |p::r=>p.cells++zeq r
end
mutual
theorem LP.low{n:Nat}:∀p:LP,lows n p.cells=true
 | .mk F ty tx ps=>by simp only[LP.cells,lows,PV.low,zb5,zf6 ps,wc4]
theorem zf6{n:Nat}:∀l:List LP,lows n (zeq l)=true
 |[]=>rfl
 |p::r=>by rw[zeq,z6v,LP.low p,zf6 r];rfl
end
theorem LP.len(p:LP):p.cells.length=4:=by cases p;rfl
theorem z00:∀l:List LP,(zeq l).length=l.length* 4
 |[]=>rfl
 |p::r=>by rw[zeq,wb0,LP.len,z00 r,waf];omega
theorem z01:∀a b:List LP,zeq a++zeq b=zeq (a++b)
 |[],b=>rfl
 |p::a,b=>by rw[zeq,wa4,z01 a b];rfl
theorem zya:∀l:List LP,noU8 (zeq l)=true
 |[]=>rfl
 | .mk F ty tx ps::r=>by rw[zeq,z1r,zya r];rfl
def zyb(f:Str->Nat->Except Nat (LP×Nat)):List Str->Nat->Except Nat (List LP×Nat)
 |[],n=>.ok ([],n)
 |b::r,n=>match f b n with
  | .error e=>.error e
  | .ok (p,n')=>match zyb f r n' with
    | .error e=>.error e
    | .ok (ps,m)=>.ok (p::ps,m)
def zsb:Str:=[109,117,108,116,105,112,97,114,116,47]
def codP(F:List Fld):Str:=zc0 (if(getU sCte F).2=0 then z6k else(getU sCte F).1)
def zje(rec:Option (Str->Nat->Except Nat (LP×Nat)))(s:Str)(n:Nat):Except Nat (LP×Nat):=
 match zbu s with
 | .form=>.error 7
 | .long=>.error 6
 | .ok F at_=>match zyx F with
   | .error e=>.error e
   | .ok (ty,mk)=>
     if zsb.isPrefixOf ty=false then(match ydn (s.drop at_) (codP F)with
      |none=>.error 7
      |some t=>.ok (.mk F ty t [],n))
     else if codP F=z6k/\ydm mk=true then(match zme (s.drop at_) mk with
      |none=>.error 7
      |some all=>match rec with
       |none=>.error 8
       |some f=>if n+all.length<=64 then(match zyb f all (n+all.length)with
        | .error e=>.error e
        | .ok (ps,m)=>.ok (.mk F ty [] ps,m))else .error 5)
     else .error 7
def zko:Nat->Str->Nat->Except Nat (LP×Nat)
 |0=>zje none
 |d+1=>zje (some (zko d))
end Nun
namespace Nun
theorem getElem?_shift{α:Type}(a l:List α)(k:Nat):(a++l)[a.length+k]?=l[k]?:=by rw[wbr (by omega)];congr 1;omega
theorem z85(a l:List UInt8)(k:Nat):zo6 (a++l) (((a.length+k:Nat):Int)+1)=zo6 l ((k:Int)+1):=by
 unfold zo6;have e2:(((a.length+k:Nat):Int)+1).toNat=a.length+(k+1):=by omega
 have e4:((k:Int)+1).toNat=k+1:=by omega
 rw[if_neg (by omega),if_neg (by omega),e2,e4,getElem?_shift,show a.length+(k+1)+1=a.length+(k+1+1) by omega,getElem?_shift]
theorem z86(a l:List UInt8)(k:Nat):zr3 (a++l) (a.length+k)=zr3 l k:=by
 unfold zr3;rw[getElem?_shift,zt9,zt9,z85]
theorem zo0{b l o:List UInt8}(hb:0<b.length)(h:zr3 (b++l) 0=some (o,b.length)):decL (b++l)=(decL l).map (o++·):=by
 unfold decL;rw[zt8 (zjc _) (by rw[wb0];omega) h,wb0,show 0+b.length=b.length+0 by omega,zyw (z86 b l)]
theorem zfx(s w:List UInt8):zhm s w ((0:Nat):Int)=w.isPrefixOf s:=z0c s w 0 (wa7 _)
theorem y1y(l:List UInt8):decL ([13,10]++l)=(decL l).map ([10]++·):=zo0 (by simp) (by
 unfold zr3;rw[zfx];simp[List.isPrefixOf])
theorem ypd(l:List UInt8):decL ([61,13,10]++l)=decL l:=by
 have:=zo0 (b:=[61,13,10]) (l:=l) (o:=[]) (by simp) (by
  unfold zr3;rw[zfx,zfx];simp[List.isPrefixOf])
 rw[this];cases decL l<;>simp
theorem yv2(c:UInt8)(l:List UInt8)(h:zjw c=true\/c=32\/c=9):decL ([c]++l)=(decL l).map ([c]++·):=zo0 (by simp) (by
 have h13:¬c=13:=by rintro rfl;revert h;decide
 have h61:¬c=61:=by rintro rfl;revert h;decide
 unfold zr3;rw[zfx,zfx];have e1:(([13,10]:List UInt8).isPrefixOf ([c]++l))=false:=by simp[List.isPrefixOf,beq_eq_false_iff_ne.2 (fun h=>h13 (Eq.symm h))]
 have e2:(([61,13,10]:List UInt8).isPrefixOf ([c]++l))=false:=by simp[List.isPrefixOf,beq_eq_false_iff_ne.2 (fun h=>h61 (Eq.symm h))]
 rw[e1,e2];rcases h with h|h|h<;>simp[h,h61]
 all_goals decide)
theorem ype:∀c:UInt8,hex2 (hexd (c/16)) (hexd (c % 16))=some c:=by decide+kernel
theorem yv3:∀c:UInt8,(hexd (c/16)==13)=false:=by decide+kernel
theorem yje(c:UInt8)(l:List UInt8):decL ((61::pair c)++l)=(decL l).map ([c]++·):=zo0 (by simp) (by
 unfold zr3;rw[zfx,zfx];have e1:(([13,10]:List UInt8).isPrefixOf ((61::pair c)++l))=false:=by simp[List.isPrefixOf]
 have e2:(([61,13,10]:List UInt8).isPrefixOf ((61::pair c)++l))=false:=by
  have:=yv3 c;simp[List.isPrefixOf,pair];intro h;rw[<-h]at this;exact absurd this (by decide)
 rw[e1,e2];have e3:zo6 ((61::pair c)++l) (((0:Nat):Int)+1)=some c:=by
  unfold zo6;rw[if_neg (by omega)];simp[pair,ype]
 simp only[wai,wbl,wbf,if_false,if_true];rw[wai]at e3;rw[e3];simp[pair])
theorem z6w(c:UInt8)(t l:List UInt8):decL (piece c t++l)=(decL l).map ([c]++·):=by
 unfold piece;split
 ·rename_i h
  refine yv2 c l ?_;simp at h;rcases h with h|⟨h,_⟩
  ·exact .inl h
  ·exact .inr h
 ·exact yje c l
theorem yjf(s:List UInt8):∀line,decL (encL line s)=some s:=by
 induction s with
 |nil=>intro line;rfl
 |cons c t ih=>
  intro line;unfold encL;split
  ·rename_i h
   rw[show 13::10::encL 0 t=[13,10]++encL 0 t from rfl,y1y,ih,h];rfl
  ·split
   ·rw[ypd,z6w,ih];rfl
   ·rw[z6w,ih];rfl
end Nun
namespace Nun
set_option maxRecDepth 100000
open Go
theorem ybr:∀(p w r:Str),w≠[]->(∀i,i<p.length->w.isPrefixOf (p.drop i++(w++r))=false)->Lib.index (p++(w++r)) w=(p.length:Int)
 |[],w,r,hw,h=>by
  have hp:w.isPrefixOf (w++r)=true:=by rw[wdj];exact List.prefix_append w r
  cases w with
  |nil=>exact absurd rfl hw
  |cons a w=>
   rw[wa5,wai];rw[wai]at hp;unfold Lib.index;rw[if_pos hp];rfl
 |c::p,w,r,hw,h=>by
  have ih:=ybr p w r hw fun i hi=>h (i+1) (by simp;omega)
  have h0:=h 0 (by simp);rw[wc8,wai]at h0;rw[wai];unfold Lib.index;rw[h0,ih];have:((p.length:Int)==-1)=false:=by rw[beq_eq_false_iff_ne];omega
  simp only[wbf,if_false,this,waf];omega
def mkS:Str:=[61,95,110,117,110,99,105,111]
theorem z02(p r:Str)(h:noEq p=true):Lib.index (p++(zc6 mkS++r)) (zc6 mkS)=(p.length:Int):=by
 refine ybr p _ r (by decide) fun i hi=>?_
 have hx:p.drop i≠[]:=fun e=>by have:=congrArg List.length e;rw[wbc]at this;simp at this;omega
 have:=yvd (w:=[110,117,110,99,105,111]) (r:=[10,45,45]++mkS++r) hx (z5z p i h);exact this
theorem ypf{pre p r:Str}{out:List Str}(h:noEq p=true):boT (pre++(p++(zc6 mkS++([13,10]++r)))) (zc6 mkS) (out,pre.length,pre.length)=.inl (out++[p],(pre++p++zc6 mkS++[13,10]).length,(pre++p++zc6 mkS++[13,10]).length):=by
 have hd:(pre++(p++(zc6 mkS++([13,10]++r)))).drop pre.length=p++(zc6 mkS++([13,10]++r)):=by simp
 have hi:=z02 p ([13,10]++r) h;have hne:¬((p.length:Int)=-1):=by omega
 have hb:(pre++(p++(zc6 mkS++([13,10]++r)))).drop (pre.length+p.length+(zc6 mkS).length)=[13,10]++r:=by
  have e:pre++(p++(zc6 mkS++([13,10]++r)))=(pre++p++zc6 mkS)++([13,10]++r):=by simp only[wa4]
  rw[e,show pre.length+p.length+(zc6 mkS).length=(pre++p++zc6 mkS).length by simp only[wb0]];exact List.drop_left
 have ht:((pre++(p++(zc6 mkS++([13,10]++r)))).take (pre.length+p.length)).drop pre.length=p:=by
  rw[<-wa4,show pre.length+p.length=(pre++p).length by simp only[wb0],List.take_left];exact List.drop_left
 unfold boT;dsimp only;rw[hd,hi,if_neg hne,wdq,hb,ht];have h1:([45,45,13,10]:Str).isPrefixOf ([13,10]++r)=false:=rfl;have h2:([13,10]:Str).isPrefixOf ([13,10]++r)=true:=by simp[List.isPrefixOf]
 rw[h1,h2];simp only[wbf,if_false,if_true,wb0,waf,wdb]
theorem ypg{pre p:Str}{out:List Str}(h:noEq p=true):boT (pre++(p++(zc6 mkS++[45,45,13,10]))) (zc6 mkS) (out,pre.length,pre.length)=.inr (some (out++[p])):=by
 have hd:(pre++(p++(zc6 mkS++[45,45,13,10]))).drop pre.length=p++(zc6 mkS++[45,45,13,10]):=by simp
 have hi:=z02 p [45,45,13,10] h;have hne:¬((p.length:Int)=-1):=by omega
 have hb:(pre++(p++(zc6 mkS++[45,45,13,10]))).drop (pre.length+p.length+(zc6 mkS).length)=[45,45,13,10]:=by
  have e:pre++(p++(zc6 mkS++[45,45,13,10]))=(pre++p++zc6 mkS)++[45,45,13,10]:=by simp only[wa4]
  rw[e,show pre.length+p.length+(zc6 mkS).length=(pre++p++zc6 mkS).length by simp only[wb0]];exact List.drop_left
 have ht:((pre++(p++(zc6 mkS++[45,45,13,10]))).take (pre.length+p.length)).drop pre.length=p:=by
  rw[<-wa4,show pre.length+p.length=(pre++p).length by simp only[wb0],List.take_left];exact List.drop_left
 unfold boT;dsimp only;rw[hd,hi,if_neg hne,wdq,hb,ht];rfl
theorem y1z{rec:Option (Str->Nat->Except Nat (LP×Nat))}{s:Str}{n:Nat}{F:List Fld}{at_:Nat}{ty mk t:Str}(h1:zbu s=.ok F at_)(h2:zyx F=.ok (ty,mk))(h3:zsb.isPrefixOf ty=false)(h4:ydn (s.drop at_) (codP F)=some t):zje rec s n=.ok (.mk F ty t [],n):=by
 unfold zje;rw[h1];dsimp only;rw[h2];dsimp only;rw[if_pos h3,h4]
theorem z87(p q:Str)(hp:noEq p=true)(hq:noEq q=true):zme (zk7 mkS++(p++(zny mkS++(q++endB mkS)))) mkS=some [p,q]:=by
 have eb:zk7 mkS++(p++(zny mkS++(q++endB mkS)))=[45,45]++mkS++[13,10]++(p++(zc6 mkS++([13,10]++(q++(zc6 mkS++[45,45,13,10]))))):=by
  simp only[zk7,zny,endB,zc6,wa4]
 rw[eb];obtain⟨R,hR⟩:∃R,R=p++(zc6 mkS++([13,10]++(q++(zc6 mkS++[45,45,13,10])))):=⟨_,rfl⟩;rw[<-hR];have hpre:(zc6 mkS++[13,10]).isPrefixOf ([13,10]++([45,45]++mkS++[13,10]++R))=true:=by
  rw[wdj];exact⟨_,rfl⟩
 have hd:([13,10]++([45,45]++mkS++[13,10]++R)).drop (zc6 mkS++[13,10]).length=R:=rfl;unfold zme;rw[if_pos hpre,hd];obtain⟨n,hn⟩:∃n,([45,45]++mkS++[13,10]++R).length+1=n+2:=⟨([45,45]++mkS++[13,10]++R).length - 1,by simp⟩;rw[hn];have e1:R=[]++(p++(zc6 mkS++([13,10]++(q++(zc6 mkS++[45,45,13,10]))))):=by rw[hR];rfl
 have s1:=ypf (pre:=[]) (out:=[]) (r:=q++(zc6 mkS++[45,45,13,10])) hp;rw[<-e1]at s1;rw[show([]:Str).length=0 from rfl]at s1;rw[zep (n:=n+1) s1];have e2:R=([]++p++zc6 mkS++[13,10])++(q++(zc6 mkS++[45,45,13,10])):=by rw[hR];simp only[wa4,wa5]
 obtain⟨pre2,hpre2⟩:∃x,[]++p++zc6 mkS++[13,10]=x:=⟨_,rfl⟩;rw[hpre2]at e2⊢;have s2:=ypg (pre:=pre2) (out:=[]++[p]) hq;rw[<-e2]at s2;rw[zca (n:=n) s2];rfl
theorem zyc{kind:Str}(hk:kind=zbb\/kind=zci)(rec:Option (Str->Nat->Except Nat (LP×Nat)))(s:Str)(n:Nat):zje rec (zo8 kind s) n=.ok (.mk (zda kind) (zfe kind) s [],n):=by
 obtain⟨k,hk1,hk2⟩:∃k,zbu (zo8 kind s)=.ok (zda kind) k/\(zo8 kind s).drop k=encL 0 s:=by
  rcases hk with rfl|rfl
  ·exact⟨_,z83 s,zx7 _ _⟩
  ·exact⟨_,ydz s,zx7 _ _⟩
 have h2:zyx (zda kind)=.ok (zfe kind,[]):=by rcases hk with rfl|rfl<;>kernel_rfl
 have h3:codP (zda kind)=sQp:=by rcases hk with rfl|rfl<;>kernel_rfl
 refine y1z hk1 h2 (by rcases hk with rfl|rfl<;>decide) ?_;rw[hk2,h3];unfold ydn;rw[if_pos rfl];exact yjf s 0
def y10(m:Mail):LP:=.mk (zk9 (valW m.fr) (valW m.to) (valW m.su)) zjz [] [.mk (zda zbb) (zfe zbb) m.te [],.mk (zda zci) (zfe zci) m.ht []]
theorem z88(m:Mail):zko 4 (zn2 zbr (encL 0) m) 0=.ok (y10 m,2):=by
 have h1:=ydy m;have h2:∀a b c,zyx (zk9 a b c)=.ok (zjz,mkS):=fun a b c=>by kernel_rfl
 have h3:∀a b c,codP (zk9 a b c)=z6k:=fun a b c=>by kernel_rfl
 have h4:ydm mkS=true:=by kernel_rfl
 have h5:(zn2 zbr (encL 0) m).drop ((zaz (zyy m)).length+2)=ydx m:=by rw[z3m];exact zx7 _ _
 have h6:zme (ydx m) mkS=some [zo8 zbb m.te,zo8 zci m.ht]:=z87 _ _ (z6q (.inl rfl)) (z6q (.inr rfl));show zje (some (zko 3)) _ 0=_;unfold zje;rw[h1];dsimp only;rw[h2];dsimp only;rw[if_neg (by decide),if_pos ⟨h3 _ _ _,h4⟩,h5,h6];dsimp only;rw[if_pos (by show 0+2<=64;omega)];have g1:∀n,zko 3 (zo8 zbb m.te) n=.ok (.mk (zda zbb) (zfe zbb) m.te [],n):=fun n=>zyc (.inl rfl) _ _ _
 have g2:∀n,zko 3 (zo8 zci m.ht) n=.ok (.mk (zda zci) (zfe zci) m.ht [],n):=fun n=>zyc (.inr rfl) _ _ _
 simp only[zyb,g1,g2];rfl
end Nun
section
namespace Nun
open Go Go.RowKit Go.Proofs Go.Proofs.YtmpiobfdchlikaaGreatDoor
variable {lib:Callee}
structure BxAt (B:Nat→zae) (n b e:Nat) (c:Nat→List PV) (r:List (Nat × Nat)):Prop where
 len:∀ j,(B j).length=n
 get:∀ j,(B j)[b]? =some (e,c j)
 set:∀ i j,(B j).set b (e,c i)=B i
 lt:b<n
 low:∀ j,zbs n (B j)=true
 hlt:∀ q∈r,q.1<n
 hne:∀ q∈r,q.1≠b
section
variable {B:Nat→zae} {n b e:Nat} {c:Nat→List PV} {r:List (Nat × Nat)}
theorem BxAt.app(H:BxAt B n b e c r){m:Nat}(ys:zae)(hm:n+ys.length=m)(hl:zbs m ys=true)(r':List (Nat×Nat))(hr:∀q∈r',q∈r\/(n<=q.1/\q.1<m)):BxAt (fun j=>B j++ys) m b e c r' where
 len j:=by rw[wb0,H.len];exact hm
 get j:=by rw[waa (by rw[H.len];exact H.lt),H.get]
 set i j:=by rw[wdk _ _ (by rw[H.len];exact H.lt),H.set]
 lt:=by have:=H.lt;omega
 low j:=by rw[zw8,zkz (by omega) _ (H.low j),hl];rfl
 hlt q hq:=by
  rcases hr q hq with h|h
  ·have:=H.hlt q h;omega
  ·exact h.2
 hne q hq:=by
  rcases hr q hq with h|h
  ·exact H.hne q h
  ·have:=H.lt;omega
theorem BxAt.a_get(H:BxAt B n b e c r)(j:Nat)(ys:zae):(B j++ys)[b]?=some (e,c j):=by rw[waa (by rw[H.len];exact H.lt),H.get]
theorem BxAt.a_0(H:BxAt B n b e c r)(j:Nat)(ys:zae):(B j++ys)[n]?=ys[0]?:=by rw[wbr (by rw[H.len];omega),H.len,wch]
theorem BxAt.a_1(H:BxAt B n b e c r)(j i:Nat)(ys:zae):(B j++ys)[n+i]?=ys[i]?:=by rw[wbr (by rw[H.len];omega),H.len,wbs]
theorem BxAt.a_set(H:BxAt B n b e c r)(i j:Nat)(ys:zae):(B j++ys).set b (e,c i)=B i++ys:=by rw[wdk _ _ (by rw[H.len];exact H.lt),H.set]
theorem BxAt.a_s0(H:BxAt B n b e c r)(j:Nat)(ys:zae)(q:Nat×List PV):(B j++ys).set n q=B j++ys.set 0 q:=by rw[wa1 _ _ (by rw[H.len];omega),H.len,wch]
theorem BxAt.a_s1(H:BxAt B n b e c r)(j i:Nat)(ys:zae)(q:Nat×List PV):(B j++ys).set (n+i) q=B j++ys.set i q:=by rw[wa1 _ _ (by rw[H.len];omega),H.len,wbs]
theorem BxAt.a_len(H:BxAt B n b e c r)(j:Nat)(ys:zae):(B j++ys).length=n+ys.length:=by rw[wb0,H.len]
theorem BxAt.a_take(H:BxAt B n b e c r)(j:Nat)(ys:zae):(B j++ys).take n=B j:=by rw[wcz (by rw[H.len];omega),wco (by rw[H.len];omega)]
theorem BxAt.a_take1(H:BxAt B n b e c r)(j i:Nat)(ys:zae):(B j++ys).take (n+i)=B j++ys.take i:=by
 rw[List.take_append,H.len,wbs,wco (by rw[H.len];omega)]
theorem BxAt.d_0(H:BxAt B n b e c r)(o m:Nat):zev n o m (cl r)=cl r:=zom r H.hlt
theorem BxAt.d_b(H:BxAt B n b e c r)(o:Nat):zev b o 1 (cl r)=cl r:=zb6 r fun q hq e=>H.hne q hq (by rw[e])
theorem BxAt.d_1(H:BxAt B n b e c r)(i o m:Nat):zev (n+i) o m (cl r)=cl r:=zom r fun q hq=>by have:=H.hlt q hq;omega
theorem BxAt.u_0(H:BxAt B n b e c r):zbm n (cl r)=cl r:=zah r H.hlt
theorem BxAt.u_1(H:BxAt B n b e c r)(i:Nat):zbm (n+i) (cl r)=cl r:=zah r fun q hq=>by have:=H.hlt q hq;omega
theorem BxAt.l_0(H:BxAt B n b e c r):ltO n (cl r)=cl r:=ym9 r H.hlt
theorem BxAt.l_1(H:BxAt B n b e c r)(i:Nat):ltO (n+i) (cl r)=cl r:=ym9 r fun q hq=>by have:=H.hlt q hq;omega
theorem BxAt.dl_1(H:BxAt B n b e c r)(i o:Nat):zer (.cell (n+i) o) (cl r)=cl r:=zgn r fun q hq e=>by have:=H.hlt q hq;rw[e]at this;dsimp only at this;omega
theorem BxAt.dl_0(H:BxAt B n b e c r)(o:Nat):zer (.cell n o) (cl r)=cl r:=zgn r fun q hq e=>by have:=H.hlt q hq;rw[e]at this;dsimp only at this;omega
end
def yjg(lib:Callee):Prop:=∀s:Str,s.length<=10000->lib 69 [.flat (.string (S s))] [] []=some ((match zbu s with| .form=>[.slc 0 [],.flat (.int .i64 0),.flat (.int .i64 7)]| .long=>[.slc 0 [],.flat (.int .i64 0),.flat (.int .i64 6)]| .ok F at_=>[.slc F.length (zbi F),.flat (.int .i64 (at_:Nat)),.flat (.int .i64 0)]),false,[],[])
theorem yqs(H:yjg lib)(s:Str)(h:s.length<=10000):evW code lib 69 [.flat (.string (S s))] [] []=some ((match zbu s with| .form=>[.slc 0 [],.flat (.int .i64 0),.flat (.int .i64 7)]| .long=>[.slc 0 [],.flat (.int .i64 0),.flat (.int .i64 6)]| .ok F at_=>[.slc F.length (zbi F),.flat (.int .i64 (at_:Nat)),.flat (.int .i64 0)]),false,[],[]):=zde (by decide) (by kernel_rfl) (H s h)
structure LibL (lib:Callee):Prop where
 idx:zf2 lib
 pre:zcz lib
 fold:z3g lib
 alike:zow lib
 rep:zx3 lib
 dq:yo3 lib
 par:zuf lib
 cut:zug lib
 cutp:zkn lib
 ind:ybj lib
 spl:yjg lib
def rdr(j:Nat):List PV:=[.flat (.int .i64 (j:Nat))]
abbrev RT:Nat:=77
def Rec(lib:Callee)(f:Str->Nat->Except Nat (LP×Nat))(deep:Nat):Prop:=∀(B:Nat->zae)(n b:Nat)(r:List (Nat×Nat)),BxAt B n b RT rdr r->∀(s:Str)(j:Nat)(p:LP)(m:Nat),s.length<=10000->j<=64->f s j=.ok (p,m)->
 evW code lib 39 [.ptr b 0,.flat (.string (S s)),.flat (.int .i64 (deep:Nat))] (B j) (cl r)=some ([.agg p.cells],false,B m,cl r)
theorem yv4(L:LibL lib){B:Nat->zae}{n b:Nat}{r:List (Nat×Nat)}(H:BxAt B n b RT rdr r){deep j:Nat}{s:Str}(hs:s.length<=10000){F:List Fld}{at_:Nat}(h1:zbu s=.ok F at_){ty mk:Str}(h2:zyx F=.ok (ty,mk))(h3:zsb.isPrefixOf ty=false){t:Str}(h4:ydn (s.drop at_) (codP F)=some t):
 evW code lib 39 [.ptr b 0,.flat (.string (S s)),.flat (.int .i64 (deep:Nat))] (B j) (cl r)=some ([.agg (LP.mk F ty t []).cells],false,B j,cl r):=by
 obtain⟨k1,k2,k3⟩:=zx9 h1 (by omega);have f1:=yqs L.spl s hs;rw[h1]at f1;dsimp only at f1;have hgl:(getU sCt F).1.length<=10000:=zoz F _ (by simp) fun f hf=>by have:=(k3 f hf).2;omega
 have hgl2:(getU sCte F).1.length<=10000:=zoz F _ (by simp) fun f hf=>by have:=(k3 f hf).2;omega
 have f2:=yi0 L.alike L.fold L.par L.cut L.idx F ty mk k1 hgl (fun m l hp=>by have:=zox hp hgl;exact⟨this.1,by omega⟩) h2;have f3:=ybg L.alike F sCte k1 (by decide);have hm0:=zkm (lib:=lib) 0;rw[n0]at hm0;have hfl:=z8y L.fold (if(getU sCte F).2=0 then z6k else(getU sCte F).1) (by split<;>first|decide|omega);have f5:=yvt L.dq (s.drop at_) (codP F) t (by rw[wbc];omega) h4;have htyl:ty.length<=10000:=by
  unfold zyx at h2;split at h2
  ·split at h2
   ·cases h2;decide
   ·split at h2
    ·cases h2
    ·cases h2
    ·rename_i m l hp
     split at h2
     ·cases h2
      have:=(zox hp hgl).2;simp only[zc0,wbt];omega
     ·cases h2
  ·cases h2
 have f4:=z3i L.pre ty zsb (by omega) (by decide);rw[h3]at f4;unfold zsb at f4;unfold codP at f5;unfold sCte at f3 hfl f5;have hnp:=zcu F;have hlo:=fun n=>zb5 (n:=n) F
 have tk:(s.take s.length).drop at_=s.drop at_:=by rw[wds]
 obtain⟨u,hu'⟩:∃v,getU [99,111,110,116,101,110,116,45,116,114,97,110,115,102,101,114,45,101,110,99,111,100,105,110,103] F=v:=⟨_,rfl⟩;rw[hu']at f3 hfl f5;obtain⟨u,k⟩:=u;dsimp only at f3 hfl f5;have hr1:=H.a_get;have hr2:=H.a_0;have hr3:=H.a_1;have hr4:=H.a_set;have hr5:=H.a_s0;have hr6:=H.a_s1;have hr7:=H.a_len;have hr8:=H.a_take;have hr9:=H.a_take1;have hrl:=H.len;have hlow:=H.low;have hd0:=H.d_0;have hd1:=H.d_1;have hu0:=H.u_0;have hu1:=H.u_1;have hl0:=H.l_0;have hl1:=H.l_1;have hFl:=k1.1;clear k1 k3 h1 h2 h3 h4 L H;simp only[LP.cells,zeq];generalize zbi F=fc at*;refine zab zdn (qa rfl) ?_;by_cases hk:k=0
 ·subst hk
  simp only[if_true]at hfl f5;unfold z6k at hfl f5;simp(maxSteps:=999999) (disch:=first|assumption|omega) only[go_sem,simprocAttr,au,f1,f2,f3,f4,f5,hfl,hm0,hnp,hlo,tk,hr1,hr2,hr3,hr4,hr5,hr6,hr7,hr8,hr9,hrl,hlow,hd0,hd1,hu0,hu1,hl0,hl1]
 ·have hk':((k:Int)=0)=False:=by apply eq_false;omega
  simp only[hk,if_false]at hfl f5;simp(maxSteps:=999999) (disch:=first|assumption|omega) only[go_sem,simprocAttr,au,f1,f2,f3,f4,f5,hfl,hm0,hnp,hlo,tk,hk',hr1,hr2,hr3,hr4,hr5,hr6,hr7,hr8,hr9,hrl,hlow,hd0,hd1,hu0,hu1,hl0,hl1]
end Nun
end
namespace Nun
open Go Go.RowKit Go.Proofs Go.Proofs.YtmpiobfdchlikaaGreatDoor
variable {lib:Callee}
theorem zmf(a b:Nat)(r:List (Nat×Nat)):cl ((a,b)::r)=.cell a b::cl r:=rfl
def zjf:List PV:=[.slc 0 [],.flat (.string (S [])),.flat (.string (S [])),.slc 0 []]
def zpu(k:Nat)(fc:List PV)(ty:Str)(ps:List LP):List PV:=[.slc k fc,.flat (.string (S ty)),.flat (.string (S [])),.slc ps.length (zeq ps)]
def bxL(n k:Nat)(fc:List PV)(ty s mk:Str)(ps:List LP)(out:List Str):zae:=[(48,zjf),(48,zpu k fc ty ps),(39,[.slc out.length (zaq out)]),(9,[.flat (.string (S s))]),(9,[.flat (.string (S mk))]),(0,[.lp 39 0 .ready [14] [.ptr (n+2) 0]])]
theorem zyd{i:Nat}:∀m:List (Nat×Nat),zer (.slot i) (cl m)=cl m
 |[]=>rfl
 |(a,b)::m=>by rw[zmf,z1x,zyd m]
theorem z3n{d:Nat}:∀(m:List (Nat×Nat))(l:List Loc),zac d (cl m++l)=cl m++zac d l
 |[],l=>rfl
 |(a,b)::m,l=>by rw[zmf,wai,zsi,z3n m];rfl
theorem z3o{i:Nat}:∀(m:List (Nat×Nat))(l:List Loc),zer (.slot i) (cl m++l)=cl m++zer (.slot i) l
 |[],l=>rfl
 |(a,b)::m,l=>by rw[zmf,wai,z1x,z3o m];rfl
theorem z3p{i:Nat}:∀(m:List (Nat×Nat))(l:List Loc),owns (cl m++l) (.slot i)=owns l (.slot i)
 |[],l=>rfl
 |(a,b)::m,l=>by rw[zmf,wai,z7f,z3p m]
theorem BxAt.a_low{B:Nat->zae}{n b e:Nat}{c:Nat->List PV}{r:List (Nat×Nat)}(H:BxAt B n b e c r)(j i:Nat)(ys:zae):zbs (n+i) (B j++ys)=zbs (n+i) ys:=by rw[zw8,zkz (by omega) _ (H.low j),wbh]
theorem yd4{B:Nat->zae}{n b:Nat}{r:List (Nat×Nat)}(H:BxAt B n b RT rdr r)(j k:Nat)(fc:List PV)(ty s mk x:Str)(out:List Str)(ho:out.length<=1000000):
 evW code lib yldF [.yld (n+5),.flat (.string (S x))] (B j++bxL n k fc ty s mk [] out) (.cell (n+2) 0::.cell (n+1) 3::.cell n 0::.cell n 3::cl r)=some ([.flat (.bool true)],false,B j++bxL n k fc ty s mk [] (out++[x]),.cell (n+2) 0::.cell (n+1) 3::.cell n 0::.cell n 3::cl r):=by
 have hbv:bound=4294967296:=rfl;have hr1:=H.a_get;have hr2:=H.a_0;have hr3:=H.a_1;have hr4:=H.a_set;have hr5:=H.a_s0;have hr6:=H.a_s1;have hr7:=H.a_len;have hr8:=H.a_take;have hr9:=H.a_take1;have hrl:=H.len;have hlow:=H.low;have hd0:=H.d_0;have hd1:=H.d_1;have hu0:=H.u_0;have hu1:=H.u_1;have hl0:=H.l_0;have hl1:=H.l_1;have hdl1:=H.dl_1;have hdl0:=H.dl_0;clear H;refine zks zol zdn rfl (hr3 j 5 _) rfl ?_;have h1:[PV.flat (.string (S x))]=zaq [x]:=rfl;unfold bxL zjf zpu;simp(maxSteps:=999999) (disch:=first|assumption|omega) only[go_sem,simprocAttr,au,zf0,zf1,zam,zbf,hr1,hr2,hr3,hr4,hr5,hr6,hr7,hr8,hr9,hrl,hlow,hd0,hd1,hu0,hu1,hl0,hl1,hdl0,hdl1];simp only[h1,zk0,wb0,waf,wdb]
theorem z6x{f:Str->Nat->Except Nat (LP×Nat)}:∀(l:List Str)(n:Nat)(ps:List LP)(m:Nat),zyb f l n=.ok (ps,m)->ps.length=l.length
 |[],n,ps,m,h=>by cases h;rfl
 |x::l,n,ps,m,h=>by
  unfold zyb at h;split at h
  ·cases h
  ·split at h
   ·cases h
   ·rename_i h2
    cases h;simp only[waf,z6x l _ _ _ h2]
theorem ybs{f:Str->Nat->Except Nat (LP×Nat)}(hf:∀s n p m,f s n=.ok (p,m)->n<=64->m<=64):∀(l:List Str)(n:Nat)(ps:List LP)(m:Nat),zyb f l n=.ok (ps,m)->n<=64->m<=64
 |[],n,ps,m,h,hn=>by cases h;exact hn
 |x::l,n,ps,m,h,hn=>by
  unfold zyb at h;split at h
  ·cases h
  ·rename_i h1
   split at h
   ·cases h
   ·rename_i h2
    cases h;exact ybs hf l _ _ _ h2 (hf _ _ _ _ h1 hn)
theorem z03{rec:Option (Str->Nat->Except Nat (LP×Nat))}(hf:∀f,rec=some f->∀s n p m,f s n=.ok (p,m)->n<=64->m<=64)(s:Str)(n:Nat)(p:LP)(m:Nat)(h:zje rec s n=.ok (p,m))(hn:n<=64):m<=64:=by
 unfold zje at h;split at h
 ·cases h
 ·cases h
 split at h
 ·cases h
 split at h
 ·split at h
  ·cases h
  ·cases h;exact hn
 split at h
 ·split at h
  ·cases h
  split at h
  ·cases h
  rename_i f;split at h
  ·rename_i hle
   split at h
   ·cases h
   ·rename_i h2
    cases h;exact ybs (hf f rfl) _ _ _ _ h2 hle
  ·cases h
 ·cases h
theorem z04:∀(d:Nat)(s:Str)(n:Nat)(p:LP)(m:Nat),zko d s n=.ok (p,m)->n<=64->m<=64
 |0=>z03 fun f h=>by cases h
 |d+1=>z03 fun f h=>by cases h;exact z04 d
def bx5(k:Nat)(fc:List PV)(ty s mk:Str)(ps:List LP)(out:List Str):zae:=[(48,zjf),(48,zpu k fc ty ps),(39,[.slc out.length (zaq out)]),(9,[.flat (.string (S s))]),(9,[.flat (.string (S mk))])]
def ocL(n:Nat)(r:List (Nat×Nat))(k:Nat):List Loc:=if k=0 then .cell (n+2) 0::.cell (n+1) 3::.cell n 0::.cell n 3::cl r else .cell (n+1) 3::.cell (n+2) 0::.cell n 0::.cell n 3::cl r
theorem yjh{f:Str->Nat->Except Nat (LP×Nat)}{B:Nat->zae}{n b:Nat}{r:List (Nat×Nat)}(H:BxAt B n b RT rdr r){deep:Nat}(hdp:deep<4)(hrec:Rec lib f (deep+1))(kf:Nat)(fc:List PV)(hlo:∀n,lows n fc=true)(ty s mk:Str){all:List Str}{k j j':Nat}{x:Str}{p:LP}{ps:List LP}(hk:k<all.length)(hc:all[k]?=some x)(hd:all.drop k=x::all.drop (k+1))(hx:x.length<=10000)(hal:all.length<=64)(hps:ps.length=k)(hj:j<=64)(hfx:f x j=.ok (p,j')):
 evC (evW code lib) big zb1 ⟨[(0,.ptr b 0),(2,.flat (.int .i64 (deep:Nat))),(6,.ptr n 0),(10,.ptr (n+1) 0),(91,.slc all.length (zaq all)),(92,.flat (.int .i64 (all.length:Nat))),(93,.flat (.int .i64 (k:Nat)))],ocL n r k,[],B j++bx5 kf fc ty s mk ps all⟩
  =some (.normal,⟨[(0,.ptr b 0),(2,.flat (.int .i64 (deep:Nat))),(6,.ptr n 0),(10,.ptr (n+1) 0),(91,.slc all.length (zaq all)),(92,.flat (.int .i64 (all.length:Nat))),(93,.flat (.int .i64 ((k+1:Nat):Nat)))],ocL n r (k+1),[],B j'++bx5 kf fc ty s mk (ps++[p]) all⟩):=by
 have hbv:bound=4294967296:=rfl;have hlw:zbs (n+5) (bx5 kf fc ty s mk ps all)=true:=by
  have h1:=hlo (n+5);have h2:=zcy (n:=n+5) all;have h3:=zf6 (n:=n+5) ps;simp only[bx5,zjf,zpu,zbs,lows,PV.low,h1,h2,h3,wc4]
 have hin:∀r':List (Nat×Nat),(∀q∈r',q∈r\/(n<=q.1/\q.1<n+5))->BxAt (fun j=>B j++bx5 kf fc ty s mk ps all) (n+5) b RT rdr r':=fun r' hr=>H.app (m:=n+5) _ rfl hlw r' hr
 have hone:∀a c,a<5->∀q:Nat×Nat,q=(n+a,c)->q∈r\/(n<=q.1/\q.1<n+5):=fun a c h q e=>by rw[e];right;dsimp only;omega
 have c1:=hrec _ (n+5) b ((n+2,0)::(n,0)::(n,3)::r) (hin _ fun q hq=>by
  simp only[waq]at hq;rcases hq with h|h|h|h
  ·exact hone 2 _ (by omega) _ h
  ·exact hone 0 _ (by omega) _ h
  ·exact hone 0 _ (by omega) _ h
  ·exact .inl h) x j p j' hx hj hfx
 have c2:=hrec _ (n+5) b ((n+2,0)::(n+1,3)::(n,0)::(n,3)::r) (hin _ fun q hq=>by
  simp only[waq]at hq;rcases hq with h|h|h|h|h
  ·exact hone 2 _ (by omega) _ h
  ·exact hone 1 _ (by omega) _ h
  ·exact hone 0 _ (by omega) _ h
  ·exact hone 0 _ (by omega) _ h
  ·exact .inl h) x j p j' hx hj hfx
 have c3:=hrec _ (n+5) b ((n+1,3)::(n+2,0)::(n,0)::(n,3)::r) (hin _ fun q hq=>by
  simp only[waq]at hq;rcases hq with h|h|h|h|h
  ·exact hone 1 _ (by omega) _ h
  ·exact hone 2 _ (by omega) _ h
  ·exact hone 0 _ (by omega) _ h
  ·exact hone 0 _ (by omega) _ h
  ·exact .inl h) x j p j' hx hj hfx
 have hsc:(zaq all).drop k=.flat (.string (S x))::(zaq all).drop (k+1):=by simp only[zaq,<-wd6,hd,wax]
 have hr1:=H.a_get;have hr2:=H.a_0;have hr3:=H.a_1;have hr4:=H.a_set;have hr5:=H.a_s0;have hr6:=H.a_s1;have hr7:=H.a_len;have hr8:=H.a_take;have hr9:=H.a_take1;have hrl:=H.len;have hlow:=H.low;have hd0:=H.d_0;have hd1:=H.d_1;have hu0:=H.u_0;have hu1:=H.u_1;have hl0:=H.l_0;have hl1:=H.l_1;have hdl1:=H.dl_1;have hdl0:=H.dl_0;have hlb:=H.a_low;have hbn:=H.lt;have hbn1:∀i,decide (b<n+i)=true:=fun i=>decide_eq_true (by omega)
 have hpl:(zeq ps).length=k* 4:=by rw[z00,hps]
 have hpu:=zya ps;have hpw:=fun n=>zf6 (n:=n) ps
 have hap:=z01 ps [p];obtain⟨F',ty',tx',ps'⟩:=p;have hl2:=fun n=>zb5 (n:=n) F'
 have hl3:=fun n=>zf6 (n:=n) ps'
 simp only[zeq,LP.cells,wcf]at hap;simp only[LP.cells]at c1 c2 c3;have hpl':(ps++[LP.mk F' ty' tx' ps']).length=k+1:=by rw[wb0,hps];rfl
 simp only[bx5,zjf,zpu,hps,hpl',zmf,wd1,wd2]at c1 c2 c3⊢;clear hrec hd hone hin H hlw;rw[<-hap];by_cases hk0:k=0
 ·subst hk0
  obtain rfl:ps=[]:=qz hps;have hk1:¬(0+1=0):=by omega
  simp only[zeq,wa5]at c1 c2 c3⊢;simp only[ocL,if_true,hk1,if_false];clear hap hpl hpu hpw hpl';simp(maxSteps:=999999) (disch:=first|assumption|omega) only[go_sem,simprocAttr,au,zcl,c1,c2,c3,hsc,hlo,zyd,z3n,z3o,z3p,hl2,hl3,hr1,hr2,hr3,hr4,hr5,hr6,hr7,hr8,hr9,hrl,hlow,hd0,hd1,hu0,hu1,hl0,hl1,hdl0,hdl1,hlb,hbn1,zam,zcy,zbh]
 ·have hk1:¬(k+1=0):=by omega
  simp only[ocL,hk0,hk1,if_false];have hk0':(0<k):=by omega
  simp(maxSteps:=999999) (disch:=first|assumption|omega) only[go_sem,simprocAttr,au,zcl,c1,c2,c3,hsc,hlo,zyd,z3n,z3o,z3p,hpl,hpu,hpw,hl2,hl3,hr1,hr2,hr3,hr4,hr5,hr6,hr7,hr8,hr9,hrl,hlow,hd0,hd1,hu0,hu1,hl0,hl1,hdl0,hdl1,hlb,hbn1,zam,zcy,zbh]
theorem yji{f:Str->Nat->Except Nat (LP×Nat)}(hf:∀s n p m,f s n=.ok (p,m)->n<=64->m<=64){B:Nat->zae}{n b:Nat}{r:List (Nat×Nat)}(H:BxAt B n b RT rdr r){deep:Nat}(hdp:deep<4)(hrec:Rec lib f (deep+1))(kf:Nat)(fc:List PV)(hlo:∀n,lows n fc=true)(ty s mk:Str){all:List Str}(hx:∀x∈all,x.length<=10000)(hal:all.length<=64){j m:Nat}{ps:List LP}(hj:j<=64)(h:zyb f all j=.ok (ps,m)):
 zcn (evC (evW code lib) big zb1) [0,2,6,10,91,92,93] (n+5) big ⟨[(0,.ptr b 0),(2,.flat (.int .i64 (deep:Nat))),(6,.ptr n 0),(10,.ptr (n+1) 0),(91,.slc all.length (zaq all)),(92,.flat (.int .i64 (all.length:Nat))),(93,.flat (.int .i64 0))],ocL n r 0,[],B j++bx5 kf fc ty s mk [] all⟩
  =some (.exit 2,⟨[(6,.ptr n 0),(10,.ptr (n+1) 0)],ocL n r all.length,[],B m++bx5 kf fc ty s mk ps all⟩):=by
 have hlb:∀(j:Nat)(ps:List LP),zbs (n+5) (B j++bx5 kf fc ty s mk ps all)=true:=by
  intro j ps;have h1:=hlo (n+5);have h2:=zcy (n:=n+5) all;have h3:=zf6 (n:=n+5) ps;rw[H.a_low];simp only[bx5,zjf,zpu,zbs,lows,PV.low,h1,h2,h3,wc4]
 have hloop:=zfd (body:=evC (evW code lib) big zb1) (live:=[0,2,6,10,91,92,93]) (nb:=n+5) (fun q:Nat×Nat×List LP=>(⟨[(0,.ptr b 0),(2,.flat (.int .i64 (deep:Nat))),(6,.ptr n 0),(10,.ptr (n+1) 0),(91,.slc all.length (zaq all)),(92,.flat (.int .i64 (all.length:Nat))),(93,.flat (.int .i64 (q.1:Nat)))],ocL n r q.1,[],B q.2.1++bx5 kf fc ty s mk q.2.2 all⟩:St))
  (fun q=>q.1<=all.length/\q.2.1<=64/\q.2.2.length=q.1/\∃qs,zyb f (all.drop q.1) q.2.1=.ok (qs,m)/\q.2.2++qs=ps) (fun q=>all.length - q.1)
  (fun q=>(.exit 2,⟨[(6,.ptr n 0),(10,.ptr (n+1) 0)],ocL n r all.length,[],B m++bx5 kf fc ty s mk ps all⟩)) (fun q hq=>?_) (n:=big) (a:=(0,j,[])) ⟨wa7 _,hj,rfl,ps,h,rfl⟩ (by unfold big;dsimp only;omega)
 ·simp only[n0]at hloop
  exact hloop
 ·obtain⟨k,j,qs⟩:=q
  obtain⟨k1,k2,k3,rs,k4,k5⟩:=hq;dsimp only at k1 k2 k3 k4 k5⊢;by_cases hk:k<all.length
  ·right
   have hc:all[k]?=some all[k]:=qe hk;have hd:all.drop k=all[k]::all.drop (k+1):=wcm hk;rw[hd]at k4;unfold zyb at k4;split at k4
   ·cases k4
   ·rename_i p j' hfx
    split at k4
    ·cases k4
    ·rename_i rs' m' hl
     cases k4;refine⟨_,(k+1,j',qs++[p]),yjh H hdp hrec kf fc hlo ty s mk hk hc hd (hx _ (wd5 hk)) hal k3 k2 hfx,?_,⟨hk,hf _ _ _ _ hfx k2,by dsimp only;rw[wb0,k3];rfl,rs',hl,by rw[wa4];exact k5⟩,by dsimp only;omega,rfl⟩;have hl2:(B j'++bx5 kf fc ty s mk (qs++[p]) all).length=n+5:=by rw[H.a_len];rfl
     have hlb2:=hlb j' (qs++[p]);have hl0:=H.l_0;have hl1:=H.l_1;have hu0:=H.u_0;have hu1:=H.u_1;simp only[ocL,Nat.succ_ne_zero,if_false];clear H hrec hlb hl;generalize B j'++bx5 kf fc ty s mk (qs++[p]) all=X at*;simp(maxSteps:=999999) (disch:=first|assumption|omega) only[go_sem,simprocAttr,au,hl2,zat hl2,hl0,hl1,hu0,hu1,hlb2]
  ·left
   obtain rfl:k=all.length:=by omega
   rw[wdl]at k4;cases k4;simp only[wcf]at k5;subst k5;refine⟨_,_,?_,(by simp),rfl⟩;have hl2:(B j++bx5 kf fc ty s mk qs all).length=n+5:=by rw[H.a_len];rfl
   have hlb2:=hlb j qs;have hl0:=H.l_0;have hl1:=H.l_1;have hu0:=H.u_0;have hu1:=H.u_1;clear H hrec hlb;generalize B j++bx5 kf fc ty s mk qs all=X at*;unfold ocL;split
   ·simp(maxSteps:=999999) (disch:=first|assumption|omega) only[go_sem,simprocAttr,au,zcl,hl2,zat hl2,hl0,hl1,hu0,hu1,hlb2,zcy]
   ·simp(maxSteps:=999999) (disch:=first|assumption|omega) only[go_sem,simprocAttr,au,zcl,hl2,zat hl2,hl0,hl1,hu0,hu1,hlb2,zcy]
theorem z6y(rest line:Str)(k:Nat)(hk:rest.length<=k):∀(n:Nat)(q:List Str×Nat×Nat)(out:List Str),runS (boT rest line) none n q=some out->(∀x∈q.1,x.length<=k)->∀x∈out,x.length<=k
 |0,q,out,h,hq=>by cases h
 |n+1,q,out,h,hq=>by
  have hsl:∀a b:Nat,((rest.take a).drop b).length<=k:=fun a b=>by simp only[wbc,wa2];omega
  rw[runS]at h;split at h
  ·rename_i q' hs
   refine z6y rest line k hk n q' out h ?_;unfold boT at hs;split at hs
   ·cases hs
   ·dsimp only at hs
    split at hs
    ·split at hs<;>cases hs
    ·split at hs
     ·cases hs
      intro x hx;rcases wak.1 hx with hx|hx
      ·exact hq x hx
      ·simp at hx;subst hx;exact hsl _ _
     ·cases hs;exact hq
  ·rename_i r' hs
   subst h;unfold boT at hs;split at hs
   ·cases hs
   ·dsimp only at hs
    split at hs
    ·split at hs
     ·cases hs
      intro x hx;rcases wak.1 hx with hx|hx
      ·exact hq x hx
      ·simp at hx;subst hx;exact hsl _ _
     ·cases hs
    ·split at hs<;>cases hs
theorem z6z{s mk:Str}{all:List Str}(h:zme s mk=some all)(hs:s.length<=10000):∀x∈all,x.length<=10000:=by
 unfold zme at h;split at h
 ·rename_i hp
  have hp:=zgo hp;simp only[wb0,waf,wdb]at hp;refine z6y _ _ 10000 ?_ _ _ _ h (by simp);simp only[wbc,wb0,waf,wdb];omega
 ·cases h
theorem yph(L:LibL lib){f:Str->Nat->Except Nat (LP×Nat)}(hf:∀s n p m,f s n=.ok (p,m)->n<=64->m<=64){B:Nat->zae}{n b:Nat}{r:List (Nat×Nat)}(H:BxAt B n b RT rdr r){deep j:Nat}(hdp:deep<4)(hrec:Rec lib f (deep+1)){s:Str}(hs:s.length<=10000){F:List Fld}{at_:Nat}(h1:zbu s=.ok F at_){ty mk:Str}(h2:zyx F=.ok (ty,mk))(h3:zsb.isPrefixOf ty=true)(h4:codP F=z6k)(h5:ydm mk=true){all:List Str}(h6:zme (s.drop at_) mk=some all)(h7:j+all.length<=64){ps:List LP}{m:Nat}(h8:zyb f all (j+all.length)=.ok (ps,m)):
 evW code lib 39 [.ptr b 0,.flat (.string (S s)),.flat (.int .i64 (deep:Nat))] (B j) (cl r)=some ([.agg (LP.mk F ty [] ps).cells],false,B m,cl r):=by
 have hbv:bound=4294967296:=rfl;obtain⟨k1,k2,k3⟩:=zx9 h1 (by omega);have f1:=yqs L.spl s hs;rw[h1]at f1;dsimp only at f1;have hgl:(getU sCt F).1.length<=10000:=zoz F _ (by simp) fun f hf=>by have:=(k3 f hf).2;omega
 have hgl2:(getU sCte F).1.length<=10000:=zoz F _ (by simp) fun f hf=>by have:=(k3 f hf).2;omega
 have f2:=yi0 L.alike L.fold L.par L.cut L.idx F ty mk k1 hgl (fun m l hp=>by have:=zox hp hgl;exact⟨this.1,by omega⟩) h2;have f3:=ybg L.alike F sCte k1 (by decide);have hm0:=zkm (lib:=lib) 0;have hm7:=zkm (lib:=lib) 7;have hm8:=zkm (lib:=lib) 8;have hm5:=zkm (lib:=lib) 5;rw[n0]at hm0;rw[show((7:Nat):Int)=7 from rfl]at hm7;rw[show((8:Nat):Int)=8 from rfl]at hm8;rw[show((5:Nat):Int)=5 from rfl]at hm5;have hfl:=z8y L.fold (if(getU sCte F).2=0 then z6k else(getU sCte F).1) (by split<;>first|decide|omega);have h4':=h4;unfold codP at h4';rw[h4']at hfl;have htyl:ty.length<=10000:=by
  unfold zyx at h2;split at h2
  ·split at h2
   ·cases h2;decide
   ·split at h2
    ·cases h2
    ·cases h2
    ·rename_i m l hp
     split at h2
     ·cases h2
      have:=(zox hp hgl).2;simp only[zc0,wbt];omega
     ·cases h2
  ·cases h2
 have f4:=z3i L.pre ty zsb (by omega) (by decide);rw[h3]at f4;have hmk:mk.length<=70:=by
  unfold ydm at h5;simp only[wb1,decide_eq_true_eq]at h5;exact h5.2.2
 have f6:=yix L.idx mk (by omega);rw[h5]at f6;have hbl:(s.drop at_).length<=10000:=by rw[wbc];omega
 have hlp:=z6x _ _ _ _ h8;have hal:all.length<=64:=by omega
 unfold zsb at f4;unfold sCte at f3 hfl;unfold z6k at hfl;have hnp:=zcu F;have hlo:=fun n=>zb5 (n:=n) F
 have tk:(s.take s.length).drop at_=s.drop at_:=by rw[wds]
 obtain⟨u,hu'⟩:∃v,getU [99,111,110,116,101,110,116,45,116,114,97,110,115,102,101,114,45,101,110,99,111,100,105,110,103] F=v:=⟨_,rfl⟩;rw[hu']at f3 hfl;obtain⟨u,k⟩:=u;dsimp only at f3 hfl;have hFl:=k1.1;simp only[LP.cells];generalize zbi F=fc at*;have hoc:∀q∈((n+2,0)::(n+1,3)::(n,0)::(n,3)::r),q.1<n+6:=by
  intro q hq;simp only[waq]at hq;rcases hq with rfl|rfl|rfl|rfl|hq
  ·dsimp only;omega
  ·dsimp only;omega
  ·dsimp only;omega
  ·dsimp only;omega
  ·have:=H.hlt q hq;omega
 have hrun:=ydo (lib:=lib) L.ind L.cutp L.pre (s.drop at_) mk all (by omega) (by omega) h6 (fun out=>B j++bxL n F.length fc ty (s.drop at_) mk [] out) _ (n+5) (n+4) (n+3) (n+6) (fun a=>by rw[H.a_1];rfl) (fun a=>by rw[H.a_1];rfl) (fun a=>by rw[H.a_len];rfl) hoc (fun a x ha=>by simp only[zmf];exact yd4 H j F.length fc ty _ mk x a (by omega));simp only[zmf]at hrun;have hnew:=z0v (lib:=lib) (s.drop at_) mk (B j++[(48,zjf),(48,zpu F.length fc ty []),(39,[.slc 0 []])]) ((n+2,0)::(n+1,3)::(n,0)::(n,3)::r) (fun q hq=>by
  rw[H.a_len];simp only[waq]at hq;rcases hq with rfl|rfl|rfl|rfl|hq
  ·dsimp only[List.length_cons,List.length_nil];omega
  ·dsimp only[List.length_cons,List.length_nil];omega
  ·dsimp only[List.length_cons,List.length_nil];omega
  ·dsimp only[List.length_cons,List.length_nil];omega
  ·have:=H.hlt q hq;dsimp only[List.length_cons,List.length_nil];omega)
 simp only[zmf,H.a_len,waf,wdb,wbx,Nat.reduceAdd,wam,wa4,wai,wa5]at hnew;have hnew0:=z0v (lib:=lib) (s.drop at_) mk [] [] (by simp);simp only[zzx,wdb,wa5,wbx]at hnew0;have hr1:=H.a_get;have hr2:=H.a_0;have hr3:=H.a_1;have hr4:=H.a_set;have hr5:=H.a_s0;have hr6:=H.a_s1;have hr7:=H.a_len;have hr8:=H.a_take;have hr9:=H.a_take1;have hrl:=H.len;have hlow:=H.low;have hd0:=H.d_0;have hd1:=H.d_1;have hu0:=H.u_0;have hu1:=H.u_1;have hl0:=H.l_0;have hl1:=H.l_1;have hdl1:=H.dl_1;have hdl0:=H.dl_0;have hset:∀ys,(B j++ys).set b (RT,[PV.flat (.int .i64 ((j:Int)+(all.length:Int)))])=B (j+all.length)++ys:=fun ys=>by have:=H.a_set (j+all.length) j ys;simp only[rdr,wd1]at this;exact this
 have hloop:=yji hf H hdp hrec F.length fc hlo ty (s.drop at_) mk (z6z h6 hbl) (by omega) h7 h8;obtain⟨j1,hj1⟩:∃q,j+all.length=q:=⟨_,rfl⟩;rw[hj1]at hset hloop;simp only[rdr]at hr1 hr4;simp only[bx5,zjf,zpu,zeq,wdb]at hloop;have hoc0:ocL n r 0=.cell (n+2) 0::.cell (n+1) 3::.cell n 0::.cell n 3::cl r:=rfl;rw[hoc0]at hloop;have hlb:=H.a_low;have hlq:=fun n=>zf6 (n:=n) ps;have hbn:=H.lt;have hbn1:∀i,decide (b<n+i)=true:=fun i=>decide_eq_true (by omega)
 have hdb:=H.d_b;clear k1 k3 h1 h2 h3 h4 h4' h5 h6 L H;unfold bxL zjf zpu at hrun;unfold zjf zpu at hnew;have s0:zaq []=[]:=rfl;have l0:zeq []=[]:=rfl;simp only[l0,wdb]at hnew;simp only[l0,s0,wdb]at hrun;refine zab zdn (qa rfl) ?_;have hE:ocL n r all.length=.cell (n+2) 0::.cell (n+1) 3::.cell n 0::.cell n 3::cl r\/ocL n r all.length=.cell (n+1) 3::.cell (n+2) 0::.cell n 0::.cell n 3::cl r:=by
  unfold ocL;split
  ·exact .inl rfl
  ·exact .inr rfl
 by_cases hk:k=0
 ·subst hk
  simp only[if_true]at hfl;rcases hE with hE|hE<;>rw[hE]at hloop
  ·simp(maxSteps:=999999) (disch:=first|assumption|omega) only[go_sem,simprocAttr,au,f1,f2,f3,f4,f6,hfl,hm0,hm7,hm8,hm5,hnew,hnew0,hrun,hloop,hnp,hlo,tk,hr1,hr2,hr3,hr4,hr5,hr6,hr7,hr8,hr9,hrl,hlow,hd0,hd1,hu0,hu1,hl0,hl1,hdl0,hdl1,hlb,hbn1,hset,hlq,hdb,zam,zcy,zbh]
  ·simp(maxSteps:=999999) (disch:=first|assumption|omega) only[go_sem,simprocAttr,au,f1,f2,f3,f4,f6,hfl,hm0,hm7,hm8,hm5,hnew,hnew0,hrun,hloop,hnp,hlo,tk,hr1,hr2,hr3,hr4,hr5,hr6,hr7,hr8,hr9,hrl,hlow,hd0,hd1,hu0,hu1,hl0,hl1,hdl0,hdl1,hlb,hbn1,hset,hlq,hdb,zam,zcy,zbh]
 ·have hk':((k:Int)=0)=False:=by apply eq_false;omega
  simp only[hk,if_false]at hfl;rcases hE with hE|hE<;>rw[hE]at hloop
  ·simp(maxSteps:=999999) (disch:=first|assumption|omega) only[go_sem,simprocAttr,au,f1,f2,f3,f4,f6,hfl,hk',hm0,hm7,hm8,hm5,hnew,hnew0,hrun,hloop,hnp,hlo,tk,hr1,hr2,hr3,hr4,hr5,hr6,hr7,hr8,hr9,hrl,hlow,hd0,hd1,hu0,hu1,hl0,hl1,hdl0,hdl1,hlb,hbn1,hset,hlq,hdb,zam,zcy,zbh]
  ·simp(maxSteps:=999999) (disch:=first|assumption|omega) only[go_sem,simprocAttr,au,f1,f2,f3,f4,f6,hfl,hk',hm0,hm7,hm8,hm5,hnew,hnew0,hrun,hloop,hnp,hlo,tk,hr1,hr2,hr3,hr4,hr5,hr6,hr7,hr8,hr9,hrl,hlow,hd0,hd1,hu0,hu1,hl0,hl1,hdl0,hdl1,hlb,hbn1,hset,hlq,hdb,zam,zcy,zbh]
theorem z05(L:LibL lib){rec:Option (Str->Nat->Except Nat (LP×Nat))}{deep:Nat}(hr:∀f,rec=some f->deep<4/\Rec lib f (deep+1)/\∀s n p m,f s n=.ok (p,m)->n<=64->m<=64):Rec lib (zje rec) deep:=by
 intro B n b r H s j p m hs hj h;unfold zje at h;split at h
 ·cases h
 ·cases h
 rename_i F at_ h1;split at h
 ·cases h
 rename_i ty mk h2;split at h
 ·rename_i h3
  split at h
  ·cases h
  ·rename_i t h4
   cases h;exact yv4 L H hs h1 h2 h3 h4
 ·rename_i h3
  have h3:zsb.isPrefixOf ty=true:=by simpa using h3
  split at h
  ·rename_i h45
   split at h
   ·cases h
   rename_i all h6;split at h
   ·cases h
   rename_i f;split at h
   ·rename_i h7
    split at h
    ·cases h
    ·rename_i ps m' h8
     cases h;obtain⟨r1,r2,r3⟩:=hr f rfl;exact yph L r3 H r1 r2 hs h1 h2 h3 h45.1 h45.2 h6 h7 h8
   ·cases h
  ·cases h
theorem yqt(L:LibL lib):∀(d deep:Nat),d+deep=4->Rec lib (zko d) deep
 |0,deep,h=>z05 L fun f e=>by cases e
 |d+1,deep,h=>z05 L fun f e=>by
  cases e;exact⟨by omega,yqt L d (deep+1) (by omega),z04 d⟩
end Nun
namespace Nun
open Go Go.RowKit Go.Proofs Go.Proofs.YtmpiobfdchlikaaGreatDoor
def z06(t:List (FuncId×Callee)):Callee:=fun f=>match t.lookup f with
 |some c=>c f
 |none=>fun _ _ _=>none
theorem z60{t:List (FuncId×Callee)}{f:FuncId}{c:Callee}(h:t.lookup f=some c):z06 t f=c f:=by unfold z06;rw[h]
theorem z61{P:Program}{Γ:Glob}{t:List (FuncId×Callee)}(h:∀p∈t,zcj P Γ p.2):zcj P Γ (z06 t):=fun f args bx oc vs' os bx' oc' he=>by
 unfold z06 at he;cases hc:t.lookup f with
 |some c=>rw[hc]at he;exact h _ (ygo hc) f args bx oc vs' os bx' oc' he
 |none=>rw[hc]at he;cases he
structure TupRes where
 pre:List Value
 row:Option (List Value × Nat × Nat × TypeId)
 ex:List Value
def TupRes.vs(R:TupRes)(v:Value):List Value:=match R.row with
 |none=>R.pre++R.ex
 |some _=>R.pre++v::R.ex
def TupRes.pvs(R:TupRes):List PV:=match R.row with
 |none=>(R.pre++R.ex).map .flat
 |some (c,n,_,_)=>R.pre.map .flat++.slc n (c.map .flat)::R.ex.map .flat
def tupV:List Value->Value
 |[v]=>v
 |l=>.tuple l.toArray
def zqr(P:Program)(Γ:Glob)(f:FuncId)(spec:List Value->Option TupRes):Prop:=zgz P f=true/\∀vs R,spec vs=some R->((∀v∈R.pre++R.ex,zdi v=true)/\∀c n z ty,R.row=some (c,n,z,ty)->∀v∈c,zdi v=true/\v.oneCell'=true)/\
 ∀w,Γ.G w->Calls P f vs.toArray w fun e w'=>∃v,e=.returned (tupV (R.vs v))/\(∀c n z ty,R.row=some (c,n,z,ty)->w'.ownsRow w.heap.size ty z v n c)/\Below w.heap.size w w'
def zhp(k:FuncId)(spec:List Value->Option TupRes):Nun.Callee:=fun f args bx oc=>match bx,oc with
 |[],[]=>if f=k then((zv7 args).bind spec).map fun R=>(R.pvs,false,[],[])else none
 |_,_=>none
theorem zld{k:FuncId}{spec:List Value->Option TupRes}{args:List PV}{vs:List Value}{R:TupRes}(h1:zv7 args=some vs)(h2:spec vs=some R):zhp k spec k args [] []=some (R.pvs,false,[],[]):=by
 unfold zhp;dsimp only;rw[if_pos rfl,h1,wat,h2];rfl
theorem zle{w:World}{Fr:Nat->Nat}{β:List Nat}:∀{l:List Value},(∀v∈l,zdi v=true)->Rds w Fr β (l.map .flat) l
 |[],_=>by simp[Rds]
 |v::l,h=>by
  simp only[wax,Rds];exact⟨v,l,rfl,by unfold Rd;exact⟨rfl,h v wcy⟩,zle fun x hx=>h x (wcw _ hx)⟩
theorem z07{w:World}{Fr:Nat->Nat}{β:List Nat}:∀{a b:List PV}{u v:List Value},Rds w Fr β a u->Rds w Fr β b v->Rds w Fr β (a++b) (u++v)
 |[],b,u,v,h,k=>by simp only[Rds]at h;subst h;exact k
 |p::a,b,u,v,h,k=>by
  simp only[Rds]at h;obtain⟨x,r,rfl,h1,h2⟩:=h;simp only[wai,Rds];exact⟨x,_,rfl,h1,z07 h2 k⟩
theorem yjj{w:World}{Fr:Nat->Nat}{β:List Nat}{ps:List PV}{vs:List Value}(h:Rds w Fr β ps vs):Rd w Fr β (zef ps) (tupV vs):=by
 match ps,h with
 |[],h=>
  simp only[Rds]at h;subst h;simp only[zef,tupV,Rd,Rds];exact⟨[],rfl,rfl⟩
 |[p],h=>
  simp only[Rds]at h;obtain⟨x,r,rfl,h1,rfl⟩:=h;exact h1
 |p::q::l,h=>
  have h0:=h;simp only[Rds]at h;obtain⟨x,r,rfl,h1,y,r',rfl,h2⟩:=h;show Rd w Fr β (.tup (p::q::l)) (.tuple (x::y::r').toArray);unfold Rd;exact⟨_,rfl,h0⟩
theorem zd5{P:Program}{Γ:Glob}{k:FuncId}{spec:List Value->Option TupRes}(hk:k≠yldF)(h:zqr P Γ k spec):zcj P Γ (zhp k spec):=by
 intro f args bx oc vs' os bx' oc' he;unfold zhp at he;split at he
 case h_2=>cases he
 split at he
 case isFalse=>cases he
 rename_i hf;subst hf;obtain⟨R,hR,he⟩:=qm he;cases he;obtain⟨us,hus,hsp⟩:=qb hR;obtain⟨h1,h2⟩:=h;obtain⟨⟨hfl,hc⟩,h4⟩:=h2 us R hsp;intro w Fr β vs hp;refine enters_of h1 hk ?_;obtain rfl:=zq2 hus hp.args;refine(h4 w hp.g).mono ?_;rintro e w' ⟨v,rfl,hown,hb⟩;cases hrow:R.row with
 |none=>
  obtain⟨Rl,hl⟩:=hp.rel.grow hb (Fr':=Fr) fun _ _=>rfl
  refine⟨_,Fr,β,rfl,yjj ?_,Rl,hl,(fun L h=>by cases h),fun h=>by cases h⟩;unfold TupRes.pvs TupRes.vs;rw[hrow];exact zle hfl
 |some q=>
  obtain⟨c,n,z,ty⟩:=q;have hown:=hown c n z ty hrow;have hc:=hc c n z ty hrow;obtain⟨Fr',hFr'⟩:∃F:Nat->Nat,F=fun g=>if v.ownBlock=some g then c.length else Fr g:=⟨_,rfl⟩
  have hold:∀g,g<w.heap.size->Fr' g=Fr g:=fun g hg=>by
   rw[hFr'];dsimp only;rw[if_neg];intro e;have:=(hown.lt g e).1;omega
  obtain⟨Rl,hl⟩:=hp.rel.grow hb (Fr':=Fr') hold;have hrd:Rd w' Fr' β (.slc n (c.map .flat)) v:=by
   simp only[Rd];have hlen:=hown.1;rcases hown.2 with⟨rfl,h0⟩|⟨g,cap,cur,rfl,hg,hcur,hnc,_⟩
   ·refine⟨none,0,by rw[h0],by omega,.inl ⟨?_,h0⟩⟩
    rw[h0,Nat.zero_mul]at hlen;rw[qz hlen];rfl
   ·refine⟨some ⟨g,0,none⟩,cap,rfl,hnc,.inr ⟨g,0,c,rfl,fun j u hj=>?_,zle fun x hx=>(hc x hx).1,fun x hx=>(hc x hx).2⟩⟩
    have hjl:=(qg hj).1;refine⟨?_,?_⟩
    ·rw[hFr'];dsimp only
     rw[if_pos (show(Value.slice (some ⟨g,0,none⟩) n cap).ownBlock=some g from rfl)];omega
    ·rw[wbx,hown.cellAt j (by rw[<-hlen];exact hjl),hj]
  refine⟨_,Fr',β,rfl,yjj ?_,Rl,hl,(fun L h=>by cases h),fun h=>by cases h⟩;unfold TupRes.pvs TupRes.vs;rw[hrow];refine z07 (zle fun x hx=>hfl x (by simp[hx])) ?_;simp only[Rds];exact⟨v,_,rfl,hrd,zle fun x hx=>hfl x (by simp[hx])⟩
end Nun
namespace Go.Proofs.YtmpiobfdchlikaaGreatDoor
open Go Go.RowKit Nun
attribute [local go_sem] Oper.semAt_some
theorem zdh{W:World}{D B t:Nat}{v:Value}(h:D≠B)(hb:Boxed W B t v)(o:Obj):Boxed (W.putObj D o) B t v:=(World.putObj_heap_other (was h)).trans hb
theorem zmg{w:World}{tmps:Array Value}{n0:Nat}{v b e:Value}(c1:w.cell? ⟨n0,0,none⟩=some v)(c2:w.cell? ⟨n0+1,0,none⟩=some b)(c3:w.cell? ⟨n0+1+1,0,none⟩=some e)
 (h2:tmps.getD 2 undef=.pointer (some ⟨n0,0,none⟩):=by rfl) (h3:tmps.getD 3 undef=.pointer (some ⟨n0+1,0,none⟩):=by rfl) (h4:tmps.getD 4 undef=.pointer (some ⟨n0+1+1,0,none⟩):=by rfl):
 (results Tryz.f69 tmps).run Tryz.prog w=.ok (.tuple #[v,b,e]) w:=by
 rw[wap]at h2 h3 h4;simp[results,Tryz.results69,go_sem,c1,c2,c3,h2,h3,h4]
def ybt(n0:Nat)(s:ByteArray)(x:zck):Act:={tmps:=#[.string s,undef,.pointer (some ⟨n0,0,none⟩),.pointer (some ⟨n0+1,0,none⟩),.pointer (some ⟨n0+1+1,0,none⟩),.string x.1.1,.int .i64 x.1.2,undef,undef,undef,undef,.string s,.func (.func 171) #[] #[.pointer (some ⟨n0+1+1+1,0,none⟩)],.string x.1.1,.int .i64 x.1.2,undef,undef,undef,undef,undef,undef,undef,undef,undef,undef,undef,undef,undef,undef,undef,undef,undef,undef,undef,undef,undef,undef,undef,undef,undef,undef,undef,undef,undef,undef,undef,undef,undef,undef,undef,undef,undef,undef,undef,undef,undef,undef,undef,undef,undef,undef,undef,undef,undef,undef,undef,undef,undef,undef,undef,undef,undef,undef,undef,undef,undef,undef,undef,undef,undef,undef,undef,undef,undef,undef,undef,undef,undef,undef,undef,undef,undef,undef,undef,undef],defers:=[]}
theorem yd5{n0 k:Nat}{w W w2 w3:World}{s p a b:ByteArray}{at_:Nat}{pre:List zck}{v v3:Value}{L:Bool}{tmp:Obj}(hp:p.size<=10000/\at_<=20000)
 (hl:Boxed w2 n0 45 v) (hb:Boxed w2 (n0+1) 3 (.int .i64 0)) (he:Boxed w2 (n0+1+1) 26 (.int .i64 (if L then 6 else 0))) (hs:Boxed w2 (n0+1+1+1) 9 (.string s))
 (hB:Below n0 w w2) (hk:KeepsOthers W w2) (hkp:zfp (n0+1+1+1) 0 W w2) (hg:zu0 pre) (hne:¬p.data.toList=[])
 (hst:za0 (stOf pre) p.data.toList=some ((stOf pre).1++[(p.data.toList.take k,p.data.toList.drop (k+1))],L)) (hal:a.data.toList=p.data.toList.take k) (hbl:b.data.toList=p.data.toList.drop (k+1))
 (hrow:w2.ownsRow n0 80 2 v (stOf pre).1.length (zan (stOf pre).1)) (hw2:n0<=w2.heap.size) (hmax:0<n0)
 (hown:w3.ownsRow n0 80 2 v3 ((stOf pre).1.length+1) (zan (stOf pre).1++[.string a,.string b])) (hgr:(w2.alloc tmp).grownBy w3 v.ownBlock):
 KeepsOthers W (w3.setCell ⟨n0,0,none⟩ v3)/\zfp (n0+1+1+1) 0 W (w3.setCell ⟨n0,0,none⟩ v3)/\Mid n0 w s (pre++[⟨(p,at_),hp⟩]) (w3.setCell ⟨n0,0,none⟩ v3):=by
 obtain⟨hg2,hst2⟩:=z6a (x:=⟨(p,at_),hp⟩) hg hne hst;obtain⟨_,h2,h3,h4,h5⟩:=Boxed.appended hl (by decide) hrow hw2 (wab _) hown hgr;have kp:∀{B t:Nat}{u:Value},Boxed w2 B t u->t≠80->B≠n0->Boxed (w3.setCell ⟨n0,0,none⟩ v3) B t u:=fun h ht hn=>((h.alloc tmp).kept hgr (h.not_row ht hrow)).other hn _
 have hs3:=kp hs (by decide) (by omega);have ea:(⟨(p.data.toList.take k).toArray⟩:ByteArray)=a:=by apply wdf;apply wba;rw[hal]
 have eb:(⟨(p.data.toList.drop (k+1)).toArray⟩:ByteArray)=b:=by apply wdf;apply wba;rw[hbl]
 refine⟨hk.trans h4,zos hkp ⟨Eq.trans hs3 (Eq.symm hs),h5.block _ hmax⟩,⟨⟨⟨_,h2,?_,trivial⟩,kp hb (by decide) (by omega),?_,hs3⟩,hg2⟩,hB.trans h5⟩
 ·rw[hst2,ze6]
  dsimp only;rw[wb0,List.length_singleton,ea,eb];exact h3
 ·rw[hst2];exact kp he (by decide) (by omega)
theorem yjk{n0 g cap m:Nat}{w W W1:World}{s p:ByteArray}{at_:Nat}{pre:List zck}{F0:List Fld}{q:Fld}{L:Bool}(hp:p.size<=10000/\at_<=20000)
 (hl:Boxed W1 n0 45 (.slice (some ⟨g,0,none⟩) (m+1) cap)) (hb:Boxed W1 (n0+1) 3 (.int .i64 0)) (he:Boxed W1 (n0+1+1) 26 (.int .i64 (if L then 6 else 0))) (hs:Boxed W1 (n0+1+1+1) 9 (.string s))
 (hB:Below n0 w W1) (hk:KeepsOthers W W1) (hkp:zfp (n0+1+1+1) 0 W W1) (hg:zu0 pre) (hne:¬p.data.toList=[])
 (hst:za0 (stOf pre) p.data.toList=some (F0++[(q.1,q.2++p.data.toList)],L)) (hm:F0.length=m) (hg0:n0<=g)
 (hrow:W1.ownsRow n0 80 2 (.slice (some ⟨g,0,none⟩) (m+1) cap) (m+1) (zan F0++[.string ⟨q.1.toArray⟩,.string ⟨q.2.toArray⟩])) (hmax:0<n0):
 KeepsOthers W (W1.setCell ⟨g,m* 2+1,none⟩ (.string (⟨q.2.toArray⟩++p)))/\zfp (n0+1+1+1) 0 W (W1.setCell ⟨g,m* 2+1,none⟩ (.string (⟨q.2.toArray⟩++p)))/\Mid n0 w s (pre++[⟨(p,at_),hp⟩]) (W1.setCell ⟨g,m* 2+1,none⟩ (.string (⟨q.2.toArray⟩++p))):=by
 obtain⟨hg2,hst2⟩:=z6a (x:=⟨(p,at_),hp⟩) hg hne hst;have ne:∀{B t:Nat}{u:Value},Boxed W1 B t u->t≠80->B≠g:=fun h ht e=>h.not_row ht hrow (by rw[e];rfl)
 have n1:=ne hl (by decide);have n2:=ne hb (by decide);have n3:=ne he (by decide);have n4:=ne hs (by decide);have kp:∀{B t:Nat}{u:Value},Boxed W1 B t u->B≠g->Boxed (W1.setCell ⟨g,m* 2+1,none⟩ (.string (⟨q.2.toArray⟩++p))) B t u:=fun h hn=>(Below.heap_setCell _ _ _ _ hn).trans h
 refine⟨hk.trans (KeepsOthers.setCell _ _ _),zos hkp (zud n4 (by omega) _ _),⟨⟨⟨_,kp hl n1,?_,trivial⟩,kp hb n2,?_,kp hs n4⟩,hg2⟩,hB.setCell (p:=⟨g,m* 2+1,none⟩) hg0 _⟩
 ·have:=(hrow.stored (m* 2+1) (.string (⟨q.2.toArray⟩++p))).1
  rw[hst2,ze6];dsimp only;rw[wb0,hm,List.length_singleton];rw[wa1 _ _ (by rw[zcv];omega),zcv,hm,show m* 2+1 - m* 2=1 by omega]at this;have e:(ByteArray.mk q.2.toArray++p)=⟨(q.2++p.data.toList).toArray⟩:=by
   apply wdf;apply wba;simp
  rw[e]at this;rw[<-e];rw[<-e]at this;exact this
 ·rw[hst2];exact kp he n3
theorem yjl:(Tryz.prog.info? 80).map (fun i=>(i.zero,i.size,i.bytes))=some (some (.agg #[.string ⟨#[]⟩,.string ⟨#[]⟩]),2,32):=by kernel_rfl
theorem zsc{n0:Nat}{w W W1:World}{v:Value}{b e:Int}{pre:List zck}{x:zck}(hl:Boxed W1 n0 45 v)(hb:Boxed W1 (n0+1) 3 (.int .i64 b))(he:Boxed W1 (n0+1+1) 26 (.int .i64 e))
 (hB:Below n0 w W1) (hk:KeepsOthers W W1) (hg:zu0 pre) (hx:x.1.1.data.toList≠[]) (hs:za0 (stOf pre) x.1.1.data.toList=none):
 KeepsOthers W (((W1.setCell ⟨n0,0,none⟩ (.slice none 0 0)).setCell ⟨n0+1,0,none⟩ (.int .i64 0)).setCell ⟨n0+1+1,0,none⟩ (.int .i64 7))/\
 Out n0 w .ret (pre++[x]) (((W1.setCell ⟨n0,0,none⟩ (.slice none 0 0)).setCell ⟨n0+1,0,none⟩ (.int .i64 0)).setCell ⟨n0+1+1,0,none⟩ (.int .i64 7)):=
 ⟨((hk.trans (KeepsOthers.setCell _ _ _)).trans (KeepsOthers.setCell _ _ _)).trans (KeepsOthers.setCell _ _ _),
   .inl ⟨⟨⟨((hl.set _).other (by omega) _).other (by omega) _,((hb.other (by omega) _).set _).other (by omega) _,((he.other (by omega) _).other (by omega) _).set _⟩,rfl,pre,x,rfl,hg,hx,hs⟩,
    ((hB.setCell (p:=⟨n0,0,none⟩) (wab _) _).setCell (p:=⟨n0+1,0,none⟩) (by simp) _).setCell (p:=⟨n0+1+1,0,none⟩) (by simp;omega) _⟩⟩
set_option maxRecDepth 100000 in
theorem yjm(s:ByteArray)(w:World)(hm:zho w)(hs:s.size<=10000):Calls Tryz.prog 69 #[.string s] w (splitV (zbu s.data.toList) w):=by
 refine(callsIn_wide (n:=3)).1 ?_;refine callsIn_of_wp_marks Tryz.func69 rfl trivial ?_ rfl;simp only[Tryz.ntmps69,wei,waf,wdb,Nat.reduceAdd,Nat.reduceSub,wej,wek,wel,wem,wa5,wai];refine wpIn_wide.2 ?_
 go_wp2_with(go_at_call 121;refine(yim _ _).mono ?_;rintro e w' ⟨rfl,rfl⟩)
 obtain⟨n0,hn0⟩:∃n0,w.heap.size=n0:=⟨_,rfl⟩;have hB0:Below n0 w ((((w.alloc (.cells #[.slice none 0 0] 45)).alloc (.cells #[.int .i64 0] 3)).alloc (.cells #[.int .i64 0] 26)).alloc (.cells #[.string s] 9)):=by
  rw[<-hn0];exact((((Below.refl _ w).alloc (wab _) _).alloc (by simp) _).alloc (by simp;omega) _).alloc (by simp;omega) _
 have hl0:Boxed ((((w.alloc (.cells #[.slice none 0 0] 45)).alloc (.cells #[.int .i64 0] 3)).alloc (.cells #[.int .i64 0] 26)).alloc (.cells #[.string s] 9)) n0 45 (.slice none 0 0):=by
  rw[<-hn0];exact(((Boxed.new w _ _).alloc _).alloc _).alloc _
 have hb0:Boxed ((((w.alloc (.cells #[.slice none 0 0] 45)).alloc (.cells #[.int .i64 0] 3)).alloc (.cells #[.int .i64 0] 26)).alloc (.cells #[.string s] 9)) (n0+1) 3 (.int .i64 0):=by
  have:=Boxed.new (w.alloc (.cells #[.slice none 0 0] 45)) 3 (.int .i64 0);rw[wc1,hn0]at this;exact(this.alloc _).alloc _
 have he0:Boxed ((((w.alloc (.cells #[.slice none 0 0] 45)).alloc (.cells #[.int .i64 0] 3)).alloc (.cells #[.int .i64 0] 26)).alloc (.cells #[.string s] 9)) (n0+1+1) 26 (.int .i64 0):=by
  have:=Boxed.new ((w.alloc (.cells #[.slice none 0 0] 45)).alloc (.cells #[.int .i64 0] 3)) 26 (.int .i64 0);rw[wc1,wc1,hn0]at this;exact this.alloc _
 have hs0:Boxed ((((w.alloc (.cells #[.slice none 0 0] 45)).alloc (.cells #[.int .i64 0] 3)).alloc (.cells #[.int .i64 0] 26)).alloc (.cells #[.string s] 9)) (n0+1+1+1) 9 (.string s):=by
  have:=Boxed.new (((w.alloc (.cells #[.slice none 0 0] 45)).alloc (.cells #[.int .i64 0] 3)).alloc (.cells #[.int .i64 0] 26)) 9 (.string s);rw[wc1,wc1,wc1,hn0]at this;exact this
 have hsz:((((w.alloc (.cells #[.slice none 0 0] 45)).alloc (.cells #[.int .i64 0] 3)).alloc (.cells #[.int .i64 0] 26)).alloc (.cells #[.string s] 9)).heap.size=n0+1+1+1+1:=by
  simp only[wc1,hn0]
 have hr0:((((w.alloc (.cells #[.slice none 0 0] 45)).alloc (.cells #[.int .i64 0] 3)).alloc (.cells #[.int .i64 0] 26)).alloc (.cells #[.string s] 9)).ownsRow n0 80 2 (.slice none 0 0) 0 []:=wec _ _ _ _;have hm0:zho ((((w.alloc (.cells #[.slice none 0 0] 45)).alloc (.cells #[.int .i64 0] 3)).alloc (.cells #[.int .i64 0] 26)).alloc (.cells #[.string s] 9)):=hm.below' (by rw[<-hn0];exact hm.lt) hB0;have hmlt:0<n0:=by rw[<-hn0];exact hm.lt
 have hwn:n0<=w.heap.size:=by omega
 rw[hn0];generalize ((((w.alloc (.cells #[.slice none 0 0] 45)).alloc (.cells #[.int .i64 0] 3)).alloc (.cells #[.int .i64 0] 26)).alloc (.cells #[.string s] 9))=W0 at*;refine(wpIn_wide (n:=3)).1 ?_
 refine wpIn_rangeFunc_ownF rfl (by omega) (gf:=171) (lb:=#[.pointer (some ⟨n0+1+1+1,0,none⟩)]) rfl trivial (enters_of Tryz.func171 (by kernel_rfl) rfl)
  (z8k _ (by omega) s hs (n0+1+1+1) _ hs0 hm0) zos (ydc (by omega) (by omega)) (Below.refl _ _) (fun _=>rfl)
  (Mid n0 w s) (Out n0 w) (yvj n0 w s _ hwn (by omega)) (fun c=>yvk n0 w c _ hwn (by omega))
  ⟨⟨⟨⟨_,hl0,hr0,trivial⟩,hb0,he0,hs0⟩,yon⟩,hB0⟩ (ybt n0 s) ?assign ?body ?done ?stop
 case assign=>
  intro l x W K hK
  gi_wp2
  exact hK
 case body=>
  rintro l pre x W ⟨⟨⟨⟨v,hbl,hrow,_⟩,hbb,hbe,hbs⟩,hgood⟩,hB⟩ hlen;have hcl:=hbl.cell;have hcb:=hbb.cell;have hce:=hbe.cell;have hfl:=hbl.frozen;have hfb:=hbb.frozen;have hfe:=hbe.frozen;have HL:=Lib.hid hbl;have HBB:=Lib.hid hbb;have HE:=Lib.hid hbe;have HS:=Lib.hid hbs;clear hbl hbb hbe hbs;obtain⟨⟨p,at_⟩,hp⟩:=x;dsimp only at hp;unfold ybt;dsimp only;by_cases he:p.data.toList=[]
  ·obtain rfl:p=⟨#[]⟩:=by cases p with|mk d=>cases d with|mk l=>simp at he;subst he;rfl
   clear he
   gi_wp2
   refine⟨KeepsOthers.setCell _ _ _,.inr ⟨⟨⟨⟨v,HL.out.other (by omega) _,?_,trivial⟩,?_,?_⟩,rfl,pre,_,rfl,hgood,rfl⟩,hB.setCell (p:=⟨n0+1,0,none⟩) (by simp) _⟩⟩
   ·rw[weu];exact zxw HBB.out (by decide) hrow _
   ·rw[List.getLast?_concat];exact HBB.out.set _
   ·rw[weu];exact HE.out.other (by omega) _
  ·have HNE:=Lib.hid he;clear he
   have e1:p.toList=[] ↔ False:=by rw[Lib.toList_data];exact iff_of_false HNE.out id
   have e2:p.toList.isEmpty=false:=by
    rw[Lib.toList_data];cases h:p.data.toList with
    |nil=>exact absurd h HNE.out
    |cons _ _=>rfl
   have hpos:0<p.size:=by
    rcases wb7 p.size with h|h
    ·exact absurd (qz h) HNE.out
    ·exact h
   obtain⟨W1,hWa,hWb,hl1,hb1,he1,hs1,hrow1,hB1,hk1,hkp1⟩:∃W1:World,(998<p.size->W.setCell ⟨n0+1+1,0,none⟩ (.int .i64 6)=W1)/\(¬998<p.size->W=W1)/\Boxed W1 n0 45 v/\Boxed W1 (n0+1) 3 (.int .i64 0)/\
    Boxed W1 (n0+1+1) 26 (.int .i64 (if(stOf pre).2||decide (998<p.data.toList.length)then 6 else 0))/\Boxed W1 (n0+1+1+1) 9 (.string s)/\W1.ownsRow n0 80 2 v (stOf pre).1.length (zan (stOf pre).1)/\Below n0 w W1/\KeepsOthers W W1/\zfp (n0+1+1+1) 0 W W1:=by
    rw[show p.data.toList.length=p.size from rfl];by_cases hlong:998<p.size
    ·refine⟨_,fun _=>rfl,fun h=>absurd hlong h,HL.out.other (by omega) _,HBB.out.other (by omega) _,?_,HS.out.other (by omega) _,zxw HE.out (by decide) hrow _,hB.setCell (p:=⟨n0+1+1,0,none⟩) (by simp;omega) _,KeepsOthers.setCell _ _ _,zud (by omega) (by omega) _ _⟩
     rw[show decide (998<p.size)=true by simpa using hlong,Bool.or_true];exact HE.out.set _
    ·refine⟨W,fun h=>absurd h hlong,fun _=>rfl,HL.out,HBB.out,?_,HS.out,hrow,hB,KeepsOthers.refl _,zps (by have:=HS.out.lt;omega) (by have:=HS.out.lt;omega) (Below.refl _ _)⟩
     rw[show decide (998<p.size)=false by simpa using hlong,Bool.or_false];exact HE.out
   clear HL HBB HE HS;have hcl1:=hl1.cell;have hcb1:=hb1.cell;have hce1:=he1.cell;have hfl1:=hl1.frozen;have hfb1:=hb1.frozen;have hfe1:=he1.frozen;have HL:=Lib.hid hl1;have HBB:=Lib.hid hb1;have HE:=Lib.hid he1;have HS:=Lib.hid hs1;clear hl1 hb1 he1 hs1;have hpm:p.size<=maxLen:=by unfold maxLen;omega
   have hhead:=z0i p hpos;rcases hbl:za2 p[0]with _|_
   ·rw[hbl]at hhead
    obtain⟨q1,q2⟩:=yop _ hbl;clear hbl;have hm1:zho W1:=hm.below' (by omega) hB1;have hBs:w.heap.size<=W1.heap.size:=hB1.size;rcases hco:zdb 58 p.data.toList with _|k
    ·have HSt:=Lib.hid (zuc (st:=stOf pre) hhead hco)
     have HCO:=Lib.hid hco;clear hco hhead;by_cases hlong:998<p.size
     all_goals first|(replace hWa:=hWa hlong;clear hWb)|(obtain rfl:=hWb hlong;clear hWa hWb)
     all_goals
      gi_wp2_with (refine⟨trivial,?_⟩;gi_at_call 79;refine(CallsIn.inRound l (callsIn_wide.2 (z8j 58 p _ hm1 (by omega) HCO.out))).mono ?_;rintro e w2 ⟨rfl,hbw⟩;have hl2:Boxed w2 n0 45 v:=(hbw.block _ HL.out.lt).trans HL.out;have hb2:Boxed w2 (n0+1) 3 (.int .i64 0):=(hbw.block _ HBB.out.lt).trans HBB.out;have he2:Boxed w2 (n0+1+1) 26 (.int .i64 (if((stOf pre).2||decide (998<p.data.toList.length))=true then 6 else 0)):=(hbw.block _ HE.out.lt).trans HE.out;have hcl2:=Boxed.cell hl2;have hfl2:=Boxed.frozen hl2;have hcb2:=Boxed.cell hb2;have hfb2:=Boxed.frozen hb2;have hce2:=Boxed.cell he2;have hfe2:=Boxed.frozen he2;have HL2:=Lib.hid hl2;have HB2:=Lib.hid hb2;have HE2:=Lib.hid he2;clear hl2 hb2 he2)
      refine⟨trivial,?_⟩
      gi_wp2
      refine⟨trivial,?_⟩
      gi_wp2
      exact zsc (x:=⟨(p,at_),hp⟩) HL2.out HB2.out HE2.out (hB1.trans (hbw.mono (wac hwn hBs))) (hk1.trans (zl8 hbw)) hgood HNE.out HSt.out
    ·have hkl:=zr1 hco
     rw[show p.data.toList.length=p.size from rfl]at hkl;rcases hna:zji (p.data.toList.take k)with _|_
     ·have HSt:=Lib.hid (zxv (st:=stOf pre) hhead hco hna)
      have HCO:=Lib.hid hco;have HNA:=Lib.hid hna;clear hco hhead hna;by_cases hlong:998<p.size
      all_goals first|(replace hWa:=hWa hlong;clear hWb)|(obtain rfl:=hWb hlong;clear hWa hWb)
      all_goals
       gi_wp2_with (first|(refine⟨trivial,?_⟩;gi_at_call 79;refine(CallsIn.inRound l (callsIn_wide.2 (zn3 58 p _ hm1 (by omega) k HCO.out))).mono ?_;rintro e w2 ⟨a,b,rfl,hak,hbk,hal,hbl,hbw⟩;have haz:a.size<=maxLen:=(by unfold maxLen;omega);have HAK:=Lib.hid hak;clear hak;have hl2:Boxed w2 n0 45 v:=(hbw.block _ HL.out.lt).trans HL.out;have hb2:Boxed w2 (n0+1) 3 (.int .i64 0):=(hbw.block _ HBB.out.lt).trans HBB.out;have he2:Boxed w2 (n0+1+1) 26 (.int .i64 (if((stOf pre).2||decide (998<p.data.toList.length))=true then 6 else 0)):=(hbw.block _ HE.out.lt).trans HE.out;have hcl2:=Boxed.cell hl2;have hfl2:=Boxed.frozen hl2;have hcb2:=Boxed.cell hb2;have hfb2:=Boxed.frozen hb2;have hce2:=Boxed.cell he2;have hfe2:=Boxed.frozen he2;have HL2:=Lib.hid hl2;have HB2:=Lib.hid hb2;have HE2:=Lib.hid he2;clear hl2 hb2 he2;have hrow2:=own_below hrow1 hbw;have hs2:Boxed w2 (n0+1+1+1) 9 (.string s):=(hbw.block _ HS.out.lt).trans HS.out;have HS2:=Lib.hid hs2;clear hs2;have hw2n:n0<=w2.heap.size:=(by have:=hbw.size;omega))|(refine⟨trivial,?_⟩;gi_at_call 123;refine(CallsIn.inRound l (callsIn_wide.2 (z26 a false (by rw[hal.out];exact HNA.out) _ haz))).mono ?_;rintro e w3 ⟨rfl,rfl⟩))
       refine⟨trivial,?_⟩
       gi_wp2
       exact zsc (x:=⟨(p,at_),hp⟩) HL2.out HB2.out HE2.out (hB1.trans (hbw.mono (wac hwn hBs))) (hk1.trans (zl8 hbw)) hgood HNE.out HSt.out
     ·rcases hsh:p.data.toList.all zeb with _|_
      ·have HSt:=Lib.hid (zot (st:=stOf pre) hsh)
       have HSH:=Lib.hid hsh;have HCO:=Lib.hid hco;have HNA:=Lib.hid hna;clear hco hhead hna hsh;by_cases hlong:998<p.size
       all_goals first|(replace hWa:=hWa hlong;clear hWb)|(obtain rfl:=hWb hlong;clear hWa hWb)
       all_goals
        gi_wp2_with (first|(refine⟨trivial,?_⟩;gi_at_call 79;refine(CallsIn.inRound l (callsIn_wide.2 (zn3 58 p _ hm1 (by omega) k HCO.out))).mono ?_;rintro e w2 ⟨a,b,rfl,hak,hbk,hal,hbl,hbw⟩;have haz:a.size<=maxLen:=(by unfold maxLen;omega);have HAK:=Lib.hid hak;clear hak;have hl2:Boxed w2 n0 45 v:=(hbw.block _ HL.out.lt).trans HL.out;have hb2:Boxed w2 (n0+1) 3 (.int .i64 0):=(hbw.block _ HBB.out.lt).trans HBB.out;have he2:Boxed w2 (n0+1+1) 26 (.int .i64 (if((stOf pre).2||decide (998<p.data.toList.length))=true then 6 else 0)):=(hbw.block _ HE.out.lt).trans HE.out;have hcl2:=Boxed.cell hl2;have hfl2:=Boxed.frozen hl2;have hcb2:=Boxed.cell hb2;have hfb2:=Boxed.frozen hb2;have hce2:=Boxed.cell he2;have hfe2:=Boxed.frozen he2;have HL2:=Lib.hid hl2;have HB2:=Lib.hid hb2;have HE2:=Lib.hid he2;clear hl2 hb2 he2;have hrow2:=own_below hrow1 hbw;have hs2:Boxed w2 (n0+1+1+1) 9 (.string s):=(hbw.block _ HS.out.lt).trans HS.out;have HS2:=Lib.hid hs2;clear hs2;have hw2n:n0<=w2.heap.size:=(by have:=hbw.size;omega))|(refine⟨trivial,?_⟩;gi_at_call 123;refine(CallsIn.inRound l (callsIn_wide.2 (z26 a true (by rw[hal.out];exact HNA.out) _ haz))).mono ?_;rintro e w3 ⟨rfl,rfl⟩)|(refine⟨trivial,?_⟩;gi_at_call 122;refine(CallsIn.inRound l (callsIn_wide.2 (zvi p false HSH.out _ hpm))).mono ?_;rintro e w3 ⟨rfl,rfl⟩))
        exact zsc (x:=⟨(p,at_),hp⟩) HL2.out HB2.out HE2.out (hB1.trans (hbw.mono (wac hwn hBs))) (hk1.trans (zl8 hbw)) hgood HNE.out HSt.out
      ·obtain⟨i0,hi0,hz0,hz1,hz2⟩:=info_parts yjl
       have hgl:=z25 hgood;have hstep:=zs7 (st:=stOf pre) hsh hhead hco hna;have HSt:=Lib.hid hstep;have HSH:=Lib.hid hsh;have HCO:=Lib.hid hco;have HNA:=Lib.hid hna;clear hco hhead hna hsh hstep;by_cases hlong:998<p.size
       all_goals first|(replace hWa:=hWa hlong;clear hWb)|(obtain rfl:=hWb hlong;clear hWa hWb)
       all_goals
        gi_wp2_with (first|(refine⟨trivial,?_⟩;gi_at_call 79;refine(CallsIn.inRound l (callsIn_wide.2 (zn3 58 p _ hm1 (by omega) k HCO.out))).mono ?_;rintro e w2 ⟨a,b,rfl,hak,hbk,hal,hbl,hbw⟩;have haz:a.size<=maxLen:=(by unfold maxLen;omega);have HAK:=Lib.hid hak;clear hak;have hl2:Boxed w2 n0 45 v:=(hbw.block _ HL.out.lt).trans HL.out;have hb2:Boxed w2 (n0+1) 3 (.int .i64 0):=(hbw.block _ HBB.out.lt).trans HBB.out;have he2:Boxed w2 (n0+1+1) 26 (.int .i64 (if((stOf pre).2||decide (998<p.data.toList.length))=true then 6 else 0)):=(hbw.block _ HE.out.lt).trans HE.out;have hcl2:=Boxed.cell hl2;have hfl2:=Boxed.frozen hl2;have hcb2:=Boxed.cell hb2;have hfb2:=Boxed.frozen hb2;have hce2:=Boxed.cell he2;have hfe2:=Boxed.frozen he2;have HL2:=Lib.hid hl2;have HB2:=Lib.hid hb2;have HE2:=Lib.hid he2;clear hl2 hb2 he2;have hrow2:=own_below hrow1 hbw;have hs2:Boxed w2 (n0+1+1+1) 9 (.string s):=(hbw.block _ HS.out.lt).trans HS.out;have HS2:=Lib.hid hs2;clear hs2;have hw2n:n0<=w2.heap.size:=(by have:=hbw.size;omega))|(refine⟨trivial,?_⟩;gi_at_call 123;refine(CallsIn.inRound l (callsIn_wide.2 (z26 a true (by rw[hal.out];exact HNA.out) _ haz))).mono ?_;rintro e w3 ⟨rfl,rfl⟩)|(refine⟨trivial,?_⟩;gi_at_call 122;refine(CallsIn.inRound l (callsIn_wide.2 (zvi p true HSH.out _ hpm))).mono ?_;rintro e w3 ⟨rfl,rfl⟩)|(gi_at_builtin;refine wpListIn_append_own _ rfl _ _ 45 rfl n0 80 i0 _ 2 32 Tryz.underlying45 hi0 hz0 hz1 hz2 rfl (by decide) _ _ _ rfl (hrow2.alloc _) ⟨w2.heap.size,0,none⟩ 1 1 [.string a,.string b] rfl rfl (cell_two_new _ _ _ _) (by simp[Value.oneCell']) (by unfold maxLen;omega) (by omega) (by simp;omega) ?_;intro v3 w3 hown3 hgr3 _;obtain⟨g3,cap3,rfl⟩:=ownsRow_succ hown3;have hap:=Boxed.appended HL2.out (by decide) hrow2 hw2n (wab _) hown3 hgr3;have hc3:=hap.1.cell;have hf3:=hap.1.frozen;clear hap))
        exact yd5 hp HL2.out HB2.out HE2.out HS2.out (hB1.trans (hbw.mono (wac hwn hBs))) (hk1.trans (zl8 hbw)) (zos hkp1 (zps HS.out.lt hm1.lt hbw)) hgood HNE.out HSt.out hal.out hbl.out hrow2 hw2n hmlt hown3 hgr3
   ·rw[hbl]at hhead
    have hb2:=yil _ hbl;clear hbl;rcases hFe:(stOf pre).1.reverse with _|⟨q,R⟩
    ·have hF:(stOf pre).1=[]:=by simpa using hFe
     have HSt:=Lib.hid (zpt (l:=p.data.toList) hhead hF);have hz:(stOf pre).1.length=0:=by rw[hF];rfl
     clear hFe hF hhead;rw[hz]at hrow1;clear hz;have hv:∃a cap,v=.slice a 0 cap:=by
      rcases zov hrow1 with⟨h,_⟩|⟨g,cap,h,_⟩
      ·exact⟨_,_,h⟩
      ·exact⟨_,_,h⟩
     obtain⟨a,cap,rfl⟩:=hv;clear hrow1;by_cases hlong:998<p.size
     all_goals first|(replace hWa:=hWa hlong;clear hWb)|(obtain rfl:=hWb hlong;clear hWa hWb)
     all_goals rcases hb2 with q1|⟨q1,q2⟩
     all_goals
      gi_wp2
      refine⟨trivial,?_⟩
      gi_wp2
      exact zsc (x:=⟨(p,at_),hp⟩) HL.out HBB.out HE.out hB1 hk1 hgood HNE.out HSt.out
    ·have hF:(stOf pre).1=R.reverse++[q]:=by rw[<-List.reverse_reverse (stOf pre).1,hFe,List.reverse_cons]
     obtain⟨F0,hF0⟩:∃F0,R.reverse=F0:=⟨_,rfl⟩;rw[hF0]at hF;have hlen1:(stOf pre).1.length=F0.length+1:=by rw[hF];simp
     rw[hlen1,hF,ze6]at hrow1;obtain⟨m,hm0⟩:∃m,F0.length=m:=⟨_,rfl⟩;rw[hm0]at hrow1;obtain⟨g,cap,rfl,hg0,hglt,hcap⟩:∃g cap,v=.slice (some ⟨g,0,none⟩) (m+1) cap/\n0<=g/\g<W1.heap.size/\m+1<=cap:=by
      rcases zov hrow1 with⟨_,h⟩|⟨g,cap,h⟩
      ·omega
      ·exact⟨g,cap,h⟩
     have hcell:=hrow1.cellAt (m* 2+1) (by omega);rw[wbr (by rw[zcv];omega),zcv,hm0,show m* 2+1 - m* 2=1 by omega]at hcell;have hfro:=hrow1.frozenAt (m* 2+1);have hcell':W1.cell? ⟨g,m* 2+1,none⟩=some (.string ⟨q.2.toArray⟩):=hcell;have HROW:=Lib.hid hrow1;have HF:=Lib.hid hF;have hml:m<=1000001:=by have:=z25 hgood;omega
     have HM:=Lib.hid hm0;have hqs:(ByteArray.mk q.2.toArray).size<=200000000:=by
      have:=z6b hgood q (by rw[hF];simp);show q.2.length<=_;omega
     clear hcell hF hFe hF0 hlen1 hrow1 hm0;rcases hsh:p.data.toList.all zeb with _|_
     ·have HSt:=Lib.hid (zot (st:=stOf pre) hsh)
      have HSH:=Lib.hid hsh;clear hsh hhead;by_cases hlong:998<p.size
      all_goals first|(replace hWa:=hWa hlong;clear hWb)|(obtain rfl:=hWb hlong;clear hWa hWb)
      all_goals rcases hb2 with q1|⟨q1,q2⟩
      all_goals
       gi_wp2_with (refine⟨trivial,?_⟩;gi_at_call 122;refine(CallsIn.inRound l (callsIn_wide.2 (zvi p false HSH.out _ hpm))).mono ?_;rintro e w2 ⟨rfl,rfl⟩)
       exact zsc (x:=⟨(p,at_),hp⟩) HL.out HBB.out HE.out hB1 hk1 hgood HNE.out HSt.out
     ·have hstep:=zs6 (st:=stOf pre) (l:=p.data.toList) hsh hhead HF.out
      have HSt:=Lib.hid hstep;have HSH:=Lib.hid hsh;clear hsh hhead hstep;by_cases hlong:998<p.size
      all_goals first|(replace hWa:=hWa hlong;clear hWb)|(obtain rfl:=hWb hlong;clear hWa hWb)
      all_goals rcases hb2 with q1|⟨q1,q2⟩
      all_goals
       gi_wp2_with (refine⟨trivial,?_⟩;gi_at_call 122;refine(CallsIn.inRound l (callsIn_wide.2 (zvi p true HSH.out _ hpm))).mono ?_;rintro e w2 ⟨rfl,rfl⟩)
       exact yjk hp HL.out HBB.out HE.out HS.out hB1 hk1 hkp1 hgood HNE.out HSt.out HM.out hg0 HROW.out hmlt
 case done=>
  rintro D xs W hD hS ⟨⟨⟨⟨v,hbl,hrow,_⟩,hbb,hbe,hbs⟩,hgood⟩,hB⟩ hK;have hform:zbu s.data.toList=.form:=by
   unfold zbu;rw[<-hS,<-wcf (xs.map zck.pair),z23 hgood];rfl
  have hcl:=hbl.cell;have hcb:=hbb.cell;have hce:=hbe.cell;have hfl:=hbl.frozen;have hfb:=hbb.frozen;have hfe:=hbe.frozen;have HK:=Lib.hid hK;have HFo:=Lib.hid hform;have HL:=Lib.hid hbl;have HBB:=Lib.hid hbb;have HE:=Lib.hid hbe;clear hbl hbb hbe hbs hK hform hS;go_wp2;rw[HFo.out];have hK2:=(((KeepsOthers.setCell W ⟨n0,0,none⟩ (.slice none 0 0)).trans (KeepsOthers.setCell _ ⟨n0+1,0,none⟩ (.int .i64 0))).trans (KeepsOthers.setCell _ ⟨n0+1+1,0,none⟩ (.int .i64 7))).same D _ HK.out rfl;have h1:=(((HL.out.set (.slice none 0 0)).other (show n0≠n0+1 by omega) (.int .i64 0)).other (show n0≠n0+1+1 by omega) (.int .i64 7));have h2:=(((HBB.out.other (show n0+1≠n0 by omega) (.slice none 0 0)).set (.int .i64 0)).other (show n0+1≠n0+1+1 by omega) (.int .i64 7));have h3:=(((HE.out.other (show n0+1+1≠n0 by omega) (.slice none 0 0)).other (show n0+1+1≠n0+1 by omega) (.int .i64 0)).set (.int .i64 7));have h4:=((hB.setCell (p:=⟨n0,0,none⟩) (wab _) (.slice none 0 0)).setCell (p:=⟨n0+1,0,none⟩) (by simp) (.int .i64 0)).setCell (p:=⟨n0+1+1,0,none⟩) (by simp;omega) (.int .i64 7);refine⟨by simp,.inl ⟨_,_,rfl,run_takeDeferred hK2,?_⟩⟩;have hd0:D≠n0:=by omega
  have hd1:D≠n0+1:=by omega
  have hd2:D≠n0+1+1:=by omega
  have c1:=(zdh hd0 h1 (.deferred none)).cell;have c2:=(zdh hd1 h2 (.deferred none)).cell;have c3:=(zdh hd2 h3 (.deferred none)).cell;exact⟨_,zmg c1 c2 c3,rfl,by rw[hn0];exact h4.trans (belowK_b (w:=w) hwn _ D _ _ (by omega) hK2 rfl rfl)⟩
 case stop=>
  rintro D c pre W hD hSp hout hK;rcases hout with⟨⟨⟨hbl,hbb,hbe⟩,rfl,pre0,x,rfl,hg,hx,hst⟩,hB⟩|⟨⟨⟨⟨v,hbl,hrow,_⟩,hbb,hbe⟩,rfl,pre0,x,rfl,hg,hx⟩,hB⟩
  ·have hform:zbu s.data.toList=.form:=by
    obtain⟨r,hr⟩:=hSp;unfold zbu;rw[<-hr,wen,wa4,z23 hg,weo];show(match zb7 ((x.1.1.data.toList,x.1.2)::r) _ with|none=>Split.form|some (_,true,_)=>.long|some (f,false,b)=>.ok (f.map fun p:Fld=>(p.1,trimB p.2)) b)=_;rw[zb7,if_neg hx,hst]
   have hcl:=hbl.cell;have hcb:=hbb.cell;have hce:=hbe.cell;have hfl:=hbl.frozen;have hfb:=hbb.frozen;have hfe:=hbe.frozen;have HK:=Lib.hid hK;have HFo:=Lib.hid hform;have HL:=Lib.hid hbl;have HBB:=Lib.hid hbb;have HE:=Lib.hid hbe;clear hbl hbb hbe hK hform
   gi_wp2
   rw[HFo.out];refine⟨by simp,.inl ⟨_,_,rfl,run_takeDeferred HK.out,?_⟩⟩;have hd0:D≠n0:=by omega
   have hd1:D≠n0+1:=by omega
   have hd2:D≠n0+1+1:=by omega
   have c1:=(zdh hd0 HL.out (.deferred none)).cell;have c2:=(zdh hd1 HBB.out (.deferred none)).cell;have c3:=(zdh hd2 HE.out (.deferred none)).cell;exact⟨_,zmg c1 c2 c3,rfl,by rw[hn0];exact hB.trans (belowK_b (w:=w) hwn _ D _ _ (by omega) HK.out rfl rfl)⟩
  ·rw[weu]at hrow hbe
   rw[List.getLast?_concat]at hbb;have hrun:zb7 (itL s.data.toList 0) ([],false)=some ((stOf pre0).1,(stOf pre0).2,x.1.2):=by
    obtain⟨r,hr⟩:=hSp;rw[<-hr,wen,wa4,z23 hg,weo];show zb7 ((x.1.1.data.toList,x.1.2)::r) _=_;rw[zb7,if_pos hx]
   have hat:2<=x.1.2:=by
    obtain⟨r,hr⟩:=hSp;exact yu4 _ _ _ (wab _) (x.1.1.data.toList,x.1.2) (by rw[<-hr,wen,weo];simp[zck.pair])
   have hgl:=z25 hg;have hgv:=z6b hg;have hpl:pre0.length<=10000:=by
    obtain⟨r,hr⟩:=hSp;have h1:=zxo _ s.data.toList 0 (wab _);rw[<-hr,wb0,wbt,wb0,show s.data.toList.length=s.size from rfl]at h1;omega
   generalize hst:stOf pre0=st at*;obtain⟨F,L⟩:=st;obtain⟨⟨p,at_⟩,hp⟩:=x;dsimp only at hrow hbe hbb hrun hat hgl hgv hp;replace hbb:Boxed W (n0+1) 3 (.int .i64 at_):=hbb;have hcl:=hbl.cell;have hcb:=hbb.cell;have hce:=hbe.cell;have hfl:=hbl.frozen;have hfb:=hbb.frozen;have hfe:=hbe.frozen;have HK:=Lib.hid hK;have HL:=Lib.hid hbl;have HBB:=Lib.hid hbb;have HR:=Lib.hid hrun;clear hbl hbb hK hrun hst hx hg hSp hce hfe;cases L
   ·replace hbe:Boxed W (n0+1+1) 26 (.int .i64 0):=hbe
    have hce:=hbe.cell;have hfe:=hbe.frozen;have HE:=Lib.hid hbe;clear hbe;have hform:zbu s.data.toList=.ok (F.map fun p=>(p.1,trimB p.2)) at_:=by unfold zbu;rw[HR.out]
    have HFo:=Lib.hid hform;clear hform;obtain⟨a0,cap0,rfl,ha0⟩:∃a0 cap0,v=.slice a0 F.length cap0/\(F.length=0\/∃g,a0=some ⟨g,0,none⟩/\n0<=g/\F.length<=cap0):=by
     rcases zov hrow with⟨h,h0⟩|⟨g,cap,h,h1,_,h2⟩
     ·exact⟨none,0,by rw[h,h0],.inl h0⟩
     ·exact⟨_,_,h,.inr ⟨g,rfl,h1,h2⟩⟩
    obtain⟨n,hn⟩:∃n,F.length=n:=⟨_,rfl⟩;rw[hn]at HL hcl hrow ha0 hgl;have HN:=Lib.hid hn;have HA:=Lib.hid ha0;clear hn ha0
    gi_wp2
    go_wp2
    go_loopw [10,79] (fun _ i wr=>∃k:Nat,i=.int .i64 k/\k<=n/\Hid (Boxed wr n0 45 (.slice a0 n cap0))/\Hid (Boxed wr (n0+1) 3 (.int .i64 at_))/\Hid (Boxed wr (n0+1+1) 26 (.int .i64 0))/\Hid (wr.ownsRow n0 80 2 (.slice a0 n cap0) n (zan ((F.take k).map (fun p=>(p.1,trimB p.2))++F.drop k)))/\Below n0 w wr/\Hid (wr.heap[D]?=some (.deferred (some []))))
     (fun _ i _=>n - (intOf i).toNat)
    case atStart=>exact⟨0,rfl,wa7 _,HL,HBB,HE,Lib.hid (by simpa using hrow),hB,HK⟩
    case round=>
     clear hcl hcb hce hfl hfb hfe hrow HL HBB HE hB;obtain⟨k,rfl,hk,HL,HBB,HE,HROW,hB,HKr⟩:=hrel;have hcl:=HL.out.cell;have hcb:=HBB.out.cell;have hce:=HE.out.cell;have hfl:=HL.out.frozen;have hfb:=HBB.out.frozen;have hfe:=HE.out.frozen;by_cases hlt:k<n
     ·obtain⟨g,rfl,hg0,hcap⟩:∃g,a0=some ⟨g,0,none⟩/\n0<=g/\n<=cap0:=HA.out.resolve_left (by omega)
      have hkF:k<F.length:=by rw[HN.out];exact hlt
      obtain⟨q,hq⟩:∃q,F[k]=q:=⟨_,rfl⟩;have hmix:zan ((F.take k).map (fun p=>(p.1,trimB p.2))++F.drop k)=zan ((F.take k).map (fun p=>(p.1,trimB p.2)))++([.string ⟨q.1.toArray⟩,.string ⟨q.2.toArray⟩]++zan (F.drop (k+1))):=by
       rw[wcm hkF,hq];simp[zan]
      have hml:(zan ((F.take k).map (fun p=>(p.1,trimB p.2)))).length=k* 2:=by rw[zcv,wbt,wa2];omega
      have hrow:=HROW.out;rw[hmix]at hrow;have hcell:=hrow.cellAt (k* 2+1) (by omega);rw[wbr (by omega),hml,show k* 2+1 - k* 2=1 by omega]at hcell;have hcell':wr.cell? ⟨g,k* 2+1,none⟩=some (.string ⟨q.2.toArray⟩):=hcell;have hfro:=hrow.frozenAt (k* 2+1);have HRW:=Lib.hid hrow;have hqv:=hgv q (by rw[<-hq];exact wd5 _);have hqs:(ByteArray.mk q.2.toArray).size<=1000000000:=by show q.2.length<=_;omega
      have hne1:n0≠g:=fun e=>HL.out.not_row (by decide) HROW.out (by rw[e];rfl)
      have hne2:n0+1≠g:=fun e=>HBB.out.not_row (by decide) HROW.out (by rw[e];rfl)
      have hne3:n0+1+1≠g:=fun e=>HE.out.not_row (by decide) HROW.out (by rw[e];rfl)
      have HML:=Lib.hid hml;have HKF:=Lib.hid hkF;have HQ:=Lib.hid hq;clear hcell hrow hmix hml hq;have hki:(k:Int)<(n:Int):=by omega
      go_wp2;have hglt:g<wr.heap.size:=wae wr _ hcell';have hclq:=fun d os=>cell_regrown hcl d os
      have hcgq:=fun d os=>cell_regrown hcell' d os
      (refine zgr 8 (by kernel_rfl) (by kernel_rfl) ?_;simp only[wag,List.take_zero];(repeat (first|go_big_quiet_skip|(go_big_quiet_want;go_big_quiet_op;first|go_big_quiet_on|(apply Exists.intro;refine⟨fun _=>?_,?_⟩;(·(go_at_call 124;exact yhy (yda _ · hqs)));go_big_quiet_on))));refine wpQuiet_nil ?_;intro wq hbq;simp only[wah,wc8])
      have hcg5:=(hbq.cell (p:=⟨g,k* 2+1,none⟩) hglt).trans hcell';have hfg5:=(hbq.frozen (p:=⟨g,k* 2+1,none⟩) hglt).trans hfro;have hL5:=(hbq.block _ HL.out.lt).trans HL.out;have hB5:=(hbq.block _ HBB.out.lt).trans HBB.out;have hE5:=(hbq.block _ HE.out.lt).trans HE.out;have hK5:=(hbq.block D (wan.1 HKr.out).1).trans HKr.out;have hR5:=(own_below HRW.out hbq).stored (k* 2+1) (.string ⟨(trimB q.2).toArray⟩);have hR6:=Lib.hid hR5.1;have HL5:=Lib.hid hL5;have HB5:=Lib.hid hB5;have HE5:=Lib.hid hE5;have HK5:=Lib.hid hK5;have hbel:=(hB.trans (hbq.mono (wac hwn hB.size))).setCell (p:=⟨g,k* 2+1,none⟩) hg0 (.string ⟨(trimB q.2).toArray⟩);have HBel:=Lib.hid hbel;clear hclq hcgq hL5 hB5 hE5 hK5 hR5 hbel hcl hcb hce hfl hfb hfe hcell' hfro;go_wp2;go_roundw
      case rel=>
       refine⟨k+1,by go_num,by omega,Lib.hid ((Below.heap_setCell _ _ _ _ hne1).trans HL5.out),Lib.hid ((Below.heap_setCell _ _ _ _ hne2).trans HB5.out),Lib.hid ((Below.heap_setCell _ _ _ _ hne3).trans HE5.out),Lib.hid ?_,HBel.out,Lib.hid ((Below.heap_setCell _ _ _ _ ?_).trans HK5.out)⟩
       ·have h:=hR6.out
        have e:(zan ((F.take k).map (fun p:Fld=>(p.1,trimB p.2)))++([Value.string ⟨q.1.toArray⟩,Value.string ⟨q.2.toArray⟩]++zan (F.drop (k+1)))).set (k* 2+1) (Value.string ⟨(trimB q.2).toArray⟩)=zan ((F.take (k+1)).map (fun p:Fld=>(p.1,trimB p.2))++F.drop (k+1)):=by
         rw[wa1 _ _ (by rw[HML.out];omega),HML.out,show k* 2+1 - k* 2=1 by omega,wa0 HKF.out,HQ.out];simp[zan]
        rw[e]at h;exact h
       ·intro e
        subst e;have h:=HKr.out;have h2:=HRW.out;rcases h2.2 with⟨h',_⟩|⟨g',cap',cur,h',_,hh,_⟩
        ·simp at h'
        ·simp only[Value.slice.injEq,war,Addr.mk.injEq,and_true,true_and]at h'
         rw[<-h'.1,h]at hh;cases hh
      case measure=>simp[intOf];omega
     ·obtain rfl:k=n:=by omega
      go_wp2
      go_region
      all_goals
       go_wp2;rw[HFo.out];have hK2:=(((KeepsOthers.setCell wr ⟨n0,0,none⟩ (.slice a0 k cap0)).trans (KeepsOthers.setCell _ ⟨n0+1,0,none⟩ (.int .i64 at_))).trans (KeepsOthers.setCell _ ⟨n0+1+1,0,none⟩ (.int .i64 0))).same D _ HKr.out rfl;have h1:=(((HL.out.set (.slice a0 k cap0)).other (show n0≠n0+1 by omega) (.int .i64 at_)).other (show n0≠n0+1+1 by omega) (.int .i64 0));have h2:=(((HBB.out.other (show n0+1≠n0 by omega) (.slice a0 k cap0)).set (.int .i64 at_)).other (show n0+1≠n0+1+1 by omega) (.int .i64 0));have h3:=(((HE.out.other (show n0+1+1≠n0 by omega) (.slice a0 k cap0)).other (show n0+1+1≠n0+1 by omega) (.int .i64 at_)).set (.int .i64 0));have h4:=((hB.setCell (p:=⟨n0,0,none⟩) (wab _) (.slice a0 k cap0)).setCell (p:=⟨n0+1,0,none⟩) (by simp) (.int .i64 at_)).setCell (p:=⟨n0+1+1,0,none⟩) (by simp;omega) (.int .i64 0);have hr1:=zxw HL.out (by decide) HROW.out (.slice a0 k cap0);have hr2:=zxw (HBB.out.other (show n0+1≠n0 by omega) (.slice a0 k cap0)) (by decide) hr1 (.int .i64 at_);have hr3:=zxw ((HE.out.other (show n0+1+1≠n0 by omega) (.slice a0 k cap0)).other (show n0+1+1≠n0+1 by omega) (.int .i64 at_)) (by decide) hr2 (.int .i64 0);have hr4:=ownsRow_putObj hr3 (.deferred none) hK2 rfl;rw[wco (by rw[HN.out];exact wab _),wc0 (by rw[HN.out];exact wab _),wcf]at hr4;refine⟨by simp,.inl ⟨_,_,rfl,run_takeDeferred hK2,?_⟩⟩;have hd0:D≠n0:=by omega
       have hd1:D≠n0+1:=by omega
       have hd2:D≠n0+1+1:=by omega
       have c1:=(zdh hd0 h1 (.deferred none)).cell;have c2:=(zdh hd1 h2 (.deferred none)).cell;have c3:=(zdh hd2 h3 (.deferred none)).cell;exact⟨_,zmg c1 c2 c3,_,rfl,by rw[hn0,wbt,HN.out];exact hr4,by rw[hn0];exact(h4.drew).trans (belowK_b (w:=w) hwn _ D _ _ (by omega) hK2 rfl rfl)⟩
   ·replace hbe:Boxed W (n0+1+1) 26 (.int .i64 6):=hbe
    have hce:=hbe.cell;have hfe:=hbe.frozen;have HE:=Lib.hid hbe;clear hbe;have hform:zbu s.data.toList=.long:=by unfold zbu;rw[HR.out]
    have HFo:=Lib.hid hform;clear hform
    gi_wp2
    go_wp2
    go_region
    all_goals
     go_wp2;rw[HFo.out];have hK2:=(((KeepsOthers.setCell W ⟨n0,0,none⟩ (.slice none 0 0)).trans (KeepsOthers.setCell _ ⟨n0+1,0,none⟩ (.int .i64 0))).trans (KeepsOthers.setCell _ ⟨n0+1+1,0,none⟩ (.int .i64 6))).same D _ HK.out rfl;have h1:=(((HL.out.set (.slice none 0 0)).other (show n0≠n0+1 by omega) (.int .i64 0)).other (show n0≠n0+1+1 by omega) (.int .i64 6));have h2:=(((HBB.out.other (show n0+1≠n0 by omega) (.slice none 0 0)).set (.int .i64 0)).other (show n0+1≠n0+1+1 by omega) (.int .i64 6));have h3:=(((HE.out.other (show n0+1+1≠n0 by omega) (.slice none 0 0)).other (show n0+1+1≠n0+1 by omega) (.int .i64 0)).set (.int .i64 6));have h4:=((hB.setCell (p:=⟨n0,0,none⟩) (wab _) (.slice none 0 0)).setCell (p:=⟨n0+1,0,none⟩) (by simp) (.int .i64 0)).setCell (p:=⟨n0+1+1,0,none⟩) (by simp;omega) (.int .i64 6);refine⟨by simp,.inl ⟨_,_,rfl,run_takeDeferred hK2,?_⟩⟩;have hd0:D≠n0:=by omega
     have hd1:D≠n0+1:=by omega
     have hd2:D≠n0+1+1:=by omega
     have c1:=(zdh hd0 h1 (.deferred none)).cell;have c2:=(zdh hd1 h2 (.deferred none)).cell;have c3:=(zdh hd2 h3 (.deferred none)).cell;exact⟨_,zmg c1 c2 c3,rfl,by rw[hn0];exact(h4.drew).trans (belowK_b (w:=w) hwn _ D _ _ (by omega) hK2 rfl rfl)⟩
end Go.Proofs.YtmpiobfdchlikaaGreatDoor
section
namespace Go.Proofs.YtmpiobfdchlikaaGreatDoor
open Go.RowKit Nun
theorem zjj{s:Str}:(S s).data.toList=s:=by simp[S]
theorem y11(c:UInt8):((c.toNat:Nat):Int).toNat.toUInt8=c:=by
 rw[wdq];simp
theorem zlf{w:World}:Below w.heap.size w w:=Below.refl _ _
def one(v:Value):TupRes:=⟨[v],none,[]⟩
def flt(l:List Value):TupRes:=⟨l,none,[]⟩
variable {Γ:Glob}
theorem zh2{f:FuncId}{spec:List Value->Option TupRes}(hk:zgz Tryz.prog f=true)(h:∀vs R,spec vs=some R->∃l,R=flt l/\(∀v∈l,zdi v=true)/\∀w,Γ.G w->Calls Tryz.prog f vs.toArray w fun e w'=>e=.returned (tupV l)/\Below w.heap.size w w'):zqr Tryz.prog Γ f spec:=⟨hk,fun vs R hs=>by
 obtain⟨l,rfl,h1,h2⟩:=h vs R hs;refine⟨⟨fun v hv=>h1 v (by simpa[flt]using hv),fun c n z ty e=>by cases e⟩,fun w hw=>(h2 w hw).mono ?_⟩;rintro e w' ⟨rfl,hb⟩;exact⟨.int .i64 0,by simp[flt,TupRes.vs],(fun c n z ty e=>by cases e),hb⟩⟩
def tIdx:List Value->Option TupRes
 |[.string s,.int .u8 c]=>some (flt [.int .i64 (Lib.indexByte s.data.toList c.toNat.toUInt8)])
 |_=>none
theorem yv5:zqr Tryz.prog Γ 32 tIdx:=zh2 (by kernel_rfl) fun vs R h=>by
 unfold tIdx at h;split at h
 ·cases h
  exact⟨_,rfl,by simp[zdi],fun w _=>(Tryz.strings_IndexByte _ _ w).mono (by rintro e w' ⟨rfl,rfl⟩;exact⟨rfl,zlf⟩)⟩
 ·cases h
def tPre:List Value->Option TupRes
 |[.string s,.string p]=>some (flt [.bool (Lib.hasPrefix s.data.toList p.data.toList)])
 |_=>none
theorem yv6:zqr Tryz.prog Γ 74 tPre:=zh2 (by kernel_rfl) fun vs R h=>by
 unfold tPre at h;split at h
 ·cases h
  exact⟨_,rfl,by simp[zdi],fun w _=>(Tryz.strings_HasPrefix _ _ w).mono (by rintro e w' ⟨rfl,rfl⟩;exact⟨rfl,zlf⟩)⟩
 ·cases h
def yjn:List Value->Option TupRes
 |[.string s]=>if s.size<=1000000 then some (flt [.string (S (zc0 s.data.toList))])else none
 |_=>none
theorem ypi:zqr Tryz.prog Γ 73 yjn:=zh2 (by kernel_rfl) fun vs R h=>by
 unfold yjn at h;split at h
 ·split at h
  ·rename_i hs
   cases h;exact⟨_,rfl,by simp[zdi],fun w _=>(z0h _ w hs).mono (by rintro e w' ⟨rfl,hb⟩;exact⟨rfl,hb⟩)⟩
  ·cases h
 ·cases h
def z62:List Value->Option TupRes
 |[.string s,.string t]=>if s.size<=1000000/\t.size<=1000000 then some (flt [.bool (zc0 s.data.toList==zc0 t.data.toList)])else none
 |_=>none
theorem yjo:zqr Tryz.prog Γ 126 z62:=zh2 (by kernel_rfl) fun vs R h=>by
 unfold z62 at h;split at h
 ·split at h
  ·rename_i hs
   cases h;exact⟨_,rfl,by simp[zdi],fun w _=>(yii _ _ w hs.1 hs.2).mono (by rintro e w' ⟨rfl,hb⟩;exact⟨rfl,hb⟩)⟩
  ·cases h
 ·cases h
def ypj:List Value->Option TupRes
 |[.string s,.string p]=>some (flt [.string ⟨(Lib.trimPrefix s.data.toList p.data.toList).toArray⟩,.bool (Lib.hasPrefix s.data.toList p.data.toList)])
 |_=>none
theorem ypk:zqr Tryz.prog Γ 132 ypj:=zh2 (by kernel_rfl) fun vs R h=>by
 unfold ypj at h;split at h
 ·cases h
  exact⟨_,rfl,by simp[zdi],fun w _=>(Tryz.strings_CutPrefix _ _ w).mono (by rintro e w' ⟨rfl,rfl⟩;exact⟨rfl,zlf⟩)⟩
 ·cases h
def tDq:List Value->Option TupRes
 |[.string s]=>if s.size<=1000000 then some (match decL s.data.toList with
  |some t=>flt [.string (S t),.int .i64 0]
  |none=>flt [.string (S []),.int .i64 7])else none
 |_=>none
theorem y12:zqr Tryz.prog Γ 129 tDq:=zh2 (by kernel_rfl) fun vs R h=>by
 unfold tDq at h;split at h
 ·rename_i s
  split at h
  ·rename_i hs
   have hc:=fun w=>yh6 s w (by omega)
   cases hd:decL s.data.toList with
   |some t=>
    rw[hd]at h hc;cases h;exact⟨_,rfl,by simp[zdi],fun w _=>(hc w).mono (by rintro e w' ⟨rfl,hb⟩;exact⟨rfl,hb⟩)⟩
   |none=>
    rw[hd]at h hc;cases h;exact⟨_,rfl,by simp[zdi],fun w _=>(hc w).mono (by rintro e w' ⟨rfl,hb⟩;exact⟨rfl,hb⟩)⟩
  ·cases h
 ·cases h
def tCut:List Value->Option TupRes
 |[.string s,.string p]=>if s.size<=1000000000 then some (flt [.string ⟨(Lib.cut s.data.toList p.data.toList).1.toArray⟩,.string ⟨(Lib.cut s.data.toList p.data.toList).2.1.toArray⟩,.bool (Lib.cut s.data.toList p.data.toList).2.2])else none
 |_=>none
theorem yv7(hG:∀w,Γ.G w->zho w):zqr Tryz.prog Γ 79 tCut:=zh2 (by kernel_rfl) fun vs R h=>by
 unfold tCut at h;split at h
 ·split at h
  ·rename_i hs
   cases h;refine⟨_,rfl,by simp[zdi],fun w hw=>?_⟩;obtain⟨m,hm⟩:=hG w hw;exact(Tryz.strings_Cut _ _ m w (by omega) hm).mono (by rintro e w' ⟨rfl,n,rfl⟩;exact⟨rfl,below_drewN' w n⟩)
  ·cases h
 ·cases h
def tInd:List Value->Option TupRes
 |[.string s,.string p]=>if s.size<=1000000000 then some (flt [.int .i64 (Lib.index s.data.toList p.data.toList)])else none
 |_=>none
theorem yv8(hG:∀w,Γ.G w->zho w):zqr Tryz.prog Γ 59 tInd:=zh2 (by kernel_rfl) fun vs R h=>by
 unfold tInd at h;split at h
 ·split at h
  ·rename_i hs
   cases h;refine⟨_,rfl,by simp[zdi],fun w hw=>?_⟩;obtain⟨m,hm⟩:=hG w hw;exact(Tryz.strings_Index _ _ m w (by omega) hm).mono (by rintro e w' ⟨rfl,rfl⟩;exact⟨rfl,zlf⟩)
  ·cases h
 ·cases h
def tRep:List Value->Option TupRes
 |[.string s,.string o,.string n]=>if s.size<=1000000/\1<=o.size/\n.size<=10 then some (flt [.string ⟨(Lib.replaceAll s.data.toList o.data.toList n.data.toList).toArray⟩])else none
 |_=>none
theorem yv9(hG:∀w,Γ.G w->zho w):zqr Tryz.prog Γ 82 tRep:=zh2 (by kernel_rfl) fun vs R h=>by
 unfold tRep at h;split at h
 ·rename_i s o n
  split at h
  ·rename_i hs
   cases h;refine⟨_,rfl,by simp[zdi],fun w hw=>?_⟩;obtain⟨m,hm⟩:=hG w hw;have hcb:=Lib.countB_le o hs.2.1 s.size s (wab _);have hmul:Lib.countB s o* n.size<=1000000* 10:=wb3 (by omega) hs.2.2;exact(Tryz.strings_ReplaceAll s o n m w (by omega) hm hs.2.1 (by omega)).mono (by rintro e w' ⟨rfl,hb⟩;exact⟨rfl,hb⟩)
  ·cases h
 ·cases h
theorem z89:∀l:List Fld,∀v∈zan l,zdi v=true/\v.oneCell'=true:=by
 intro l
 induction l with
 |nil=>intro v h;simp[zan]at h
 |cons a l ih=>
  intro v h;simp only[zan,List.flatMap_cons,wak,waq,wet,or_false]at h;rcases h with(rfl|rfl)|h
  ·exact⟨rfl,rfl⟩
  ·exact⟨rfl,rfl⟩
  ·exact ih v h
theorem zuj:∀l:List Fld,(zan l).map PV.flat=zbi l
 |[]=>rfl
 |(a,b)::l=>by
  have h:=zuj l;simp only[zan,List.flatMap_cons,wen,wax,wc7,wai,wa5,zbi]at h⊢;rw[h];rfl
def tSpl:List Value->Option TupRes
 |[.string s]=>if s.size<=10000 then some (match zbu s.data.toList with
  | .form=>⟨[],some ([],0,2,80),[.int .i64 0,.int .i64 7]⟩
  | .long=>⟨[],some ([],0,2,80),[.int .i64 0,.int .i64 6]⟩
  | .ok l b=>⟨[],some (zan l,l.length,2,80),[.int .i64 b,.int .i64 0]⟩)else none
 |_=>none
theorem ywa(hG:∀w,Γ.G w->zho w):zqr Tryz.prog Γ 69 tSpl:=⟨by kernel_rfl,fun vs R h=>by
 unfold tSpl at h;split at h
 ·rename_i s
  split at h
  ·rename_i hs
   have hc:=fun w hm=>yjm s w hm hs
   cases hV:zbu s.data.toList with
   |form=>
    rw[hV]at h hc;cases h;exact⟨⟨by simp[zdi],fun c n z ty e=>by cases e;simp⟩,fun w hw=>(hc w (hG w hw)).mono (by rintro e w' ⟨rfl,hb⟩;exact⟨.slice none 0 0,rfl,(fun c n z ty e=>by cases e;exact wec _ _ _ _),hb⟩)⟩
   |long=>
    rw[hV]at h hc;cases h;exact⟨⟨by simp[zdi],fun c n z ty e=>by cases e;simp⟩,fun w hw=>(hc w (hG w hw)).mono (by rintro e w' ⟨rfl,hb⟩;exact⟨.slice none 0 0,rfl,(fun c n z ty e=>by cases e;exact wec _ _ _ _),hb⟩)⟩
   |ok l b=>
    rw[hV]at h hc;cases h;exact⟨⟨by simp[zdi],fun c n z ty e=>by cases e;exact z89 l⟩,fun w hw=>(hc w (hG w hw)).mono (by rintro e w' ⟨v,rfl,ho,hb⟩;exact⟨v,rfl,(fun c n z ty e=>by cases e;exact ho),hb⟩)⟩
  ·cases h
 ·cases h⟩
def ix2(o:Option Nat):Int:=match o with
 |some i=>(i:Int)
 |none=>-1
theorem yqu(c:UInt8):∀s:Str,Lib.indexByte s c=ix2 (at1 c s)
 |[]=>rfl
 |x::l=>by
  have h:=yqu c l;unfold Lib.indexByte at1;by_cases hx:x=c
  ·subst hx
   all_goals (simp[ix2])
  ·have h1:(x==c)=false:=by simpa using hx
   rw[h1,h,if_neg hx];cases at1 c l with
   |none=>rfl
   |some i=>
    have:((i:Int)==-1)=false:=by
     rw[beq_eq_false_iff_ne];omega
    simp only[ix2,this,wbf,if_false,wau];omega
def tTrl:List Value->Option TupRes
 |[.string s,.string t]=>if t.data.toList=[32,9]then some (flt [.string (S (s.data.toList.dropWhile za2))])else none
 |_=>none
theorem ywb:zqr Tryz.prog Γ 209 tTrl:=zh2 (by kernel_rfl) fun vs R h=>by
 unfold tTrl at h;split at h
 ·rename_i s t
  split at h
  ·rename_i ht
   cases h;have et:t=⟨#[32,9]⟩:=by rw[<-S_dl t,ht];rfl
   subst et;refine⟨_,rfl,by simp[zdi],fun w _=>?_⟩;have h:=Any.strings_TrimLeft_laid Tryz.lays161 (by kernel_rfl) s ⟨#[32,9]⟩ w (by decide) (ascii_of_all (by decide));rw[show(ByteArray.mk #[32,9]).data.toList=[32,9]from rfl,zxr]at h;exact h.mono (by rintro e w' ⟨rfl,hb⟩;exact⟨rfl,hb⟩)
  ·cases h
 ·cases h
def ywc:List (FuncId×Nun.Callee):=[(32,zhp 32 tIdx),(74,zhp 74 tPre),(73,zhp 73 yjn),(126,zhp 126 z62),(132,zhp 132 ypj),(129,zhp 129 tDq),(79,zhp 79 tCut),(59,zhp 59 tInd),(82,zhp 82 tRep),(69,zhp 69 tSpl),(209,zhp 209 tTrl)]
def zjk:Nun.Callee:=z06 ywc
theorem ypl(hG:∀w,Γ.G w->zho w):zcj Tryz.prog Γ zjk:=z61 fun p hp=>by
 simp only[ywc,waq,wet,or_false]at hp;rcases hp with rfl|rfl|rfl|rfl|rfl|rfl|rfl|rfl|rfl|rfl|rfl
 ·exact zd5 (by decide) yv5
 ·exact zd5 (by decide) yv6
 ·exact zd5 (by decide) ypi
 ·exact zd5 (by decide) yjo
 ·exact zd5 (by decide) ypk
 ·exact zd5 (by decide) y12
 ·exact zd5 (by decide) (yv7 hG)
 ·exact zd5 (by decide) (yv8 hG)
 ·exact zd5 (by decide) (yv9 hG)
 ·exact zd5 (by decide) (ywa hG)
 ·exact zd5 (by decide) ywb
theorem l14{f:FuncId}{c:Nun.Callee}{args:List PV}{bx:zae}{oc:List Nun.Loc}{r:Nun.Ans}(h:ywc.lookup f=some c)(k:c f args bx oc=some r):zjk f args bx oc=some r:=by
 unfold zjk;rw[z60 h];exact k
theorem z9a:zf2 zjk:=fun s c hs=>by
 refine l14 rfl ?_;have h:=zld (k:=32) (spec:=tIdx) (args:=[.flat (.string (S s)),.flat (.int .u8 (c.toNat:Nat))]) rfl rfl;rw[h,zjj,y11,yqu];rfl
theorem yjp:zcz zjk:=fun s p hs hp=>by
 refine l14 rfl ?_;have h:=zld (k:=74) (spec:=tPre) (args:=[.flat (.string (S s)),.flat (.string (S p))]) rfl rfl;rw[h,zjj,zjj];rfl
theorem ypm:z3g zjk:=fun s hs=>by
 refine l14 rfl ?_;have h:=zld (k:=73) (spec:=yjn) (args:=[.flat (.string (S s))]) rfl (by unfold yjn;dsimp only;rw[zai,if_pos hs,zjj]);rw[h];rfl
theorem yjq:zow zjk:=fun s t hs ht=>by
 refine l14 rfl ?_;have h:=zld (k:=126) (spec:=z62) (args:=[.flat (.string (S s)),.flat (.string (S t))]) rfl (by unfold z62;dsimp only;rw[zai,zai,if_pos ⟨hs,ht⟩,zjj,zjj]);rw[h];rfl
theorem ybu:zkn zjk:=fun s w hs=>by
 refine l14 rfl ?_;have h:=zld (k:=132) (spec:=ypj) (args:=[.flat (.string (S s)),.flat (.string (S w))]) rfl rfl;rw[h,zjj,zjj];rfl
theorem y13:yo3 zjk:=fun s hs=>by
 refine l14 rfl ?_;have h:=zld (k:=129) (spec:=tDq) (args:=[.flat (.string (S s))]) rfl (by unfold tDq;dsimp only;rw[zai,if_pos hs,zjj]);rw[h];cases decL s with
 |some t=>rfl
 |none=>rfl
theorem yjr:zug zjk:=fun s w hs=>by
 refine l14 rfl ?_;have h:=zld (k:=79) (spec:=tCut) (args:=[.flat (.string (S s)),.flat (.string (S w))]) rfl (by unfold tCut;dsimp only;rw[zai,if_pos hs,zjj,zjj]);rw[h];rfl
theorem ywd:ybj zjk:=fun s w hs=>by
 refine l14 rfl ?_;have h:=zld (k:=59) (spec:=tInd) (args:=[.flat (.string (S s)),.flat (.string (S w))]) rfl (by unfold tInd;dsimp only;rw[zai,if_pos hs,zjj,zjj]);rw[h];rfl
theorem yjs:zx3 zjk:=fun s o n hs ho hn=>by
 refine l14 rfl ?_;have h:=zld (k:=82) (spec:=tRep) (args:=[.flat (.string (S s)),.flat (.string (S o)),.flat (.string (S n))]) rfl (by unfold tRep;dsimp only;rw[zai,zai,zai,if_pos ⟨hs,ho,hn⟩,zjj,zjj,zjj]);rw[h];rfl
theorem ywe:yjg zjk:=fun s hs=>by
 refine l14 rfl ?_;have h:=zld (k:=69) (spec:=tSpl) (args:=[.flat (.string (S s))]) rfl (by unfold tSpl;dsimp only;rw[zai,if_pos hs,zjj]);rw[h];cases zbu s with
 |form=>rfl
 |long=>rfl
 |ok F b=>simp only[TupRes.pvs,zuj];rfl
theorem ywf:zuf zjk:=⟨z9a,fun s=>by
 refine l14 rfl ?_;have h:=zld (k:=209) (spec:=tTrl) (args:=[.flat (.string (S s)),.flat (.string (S [32,9]))]) rfl (by unfold tTrl;dsimp only;rw[if_pos (zjj (s:=[32,9])),zjj]);rw[h];rfl⟩
theorem ywg:LibL zjk:=⟨z9a,yjp,ypm,yjq,yjs,y13,ywf,yjr,ybu,ywd,ywe⟩
end Go.Proofs.YtmpiobfdchlikaaGreatDoor
end
namespace Nun
open Go Go.RowKit Go.Proofs Go.Proofs.YtmpiobfdchlikaaGreatDoor
variable {lib:Callee}
def yqv:CCode:=.reg [0,2,3] [] [⟨some 2,none,.alloc 48 [.flat (.slice none 0 0),.flat (.string ⟨#[]⟩),.flat (.string ⟨#[]⟩),.flat (.slice none 0 0)]⟩,⟨some 3,none,.alloc 26 [.flat (.int .i64 0)]⟩]
def yjt:CCode:=.seq (.reg [0,2,3,4] [] [⟨some 6,none,.build [.flat (.int .i64 0)] []⟩,⟨some 7,none,.box 77 1 (.t 6)⟩,⟨some 4,none,.asg (.t 7)⟩]) (.seq (.reg [2,3] [] [⟨some 8,none,.mv (.t 4)⟩,⟨some 9,none,.mv (.t 0)⟩,⟨some 10,none,.call 39 [.t 8,.t 9,.c (.flat (.int .i64 0))]⟩,⟨none,none,.store 4 (.t 2) (.t 10)⟩,⟨none,none,.store 1 (.t 3) (.c (.flat (.int .i64 0)))⟩]) (.ret [2,3]))
def parD:DFun:=⟨11,[.inr ⟨2,⟨true,4⟩⟩,.inr ⟨3,⟨false,1⟩⟩],yqv,5,38,[.t 2,.t 3],yjt⟩
theorem ywh:z5p Tryz.prog [] [[0,2,3]] [[0,2,3,4],[2,3],[2,3]] 18=some parD:=by kernel_rfl
def boxP(j:Nat):zae:=[(48,zjf),(26,[.flat (.int .i64 0)]),(RT,rdr j)]
theorem ywi:BxAt boxP 3 2 RT rdr [(0,0),(0,3)] where
 len j:=rfl
 get j:=rfl
 set i j:=rfl
 lt:=by decide
 low j:=rfl
 hlt q hq:=by simp only[waq,wet,or_false]at hq;rcases hq with rfl|rfl<;>decide
 hne q hq:=by simp only[waq,wet,or_false]at hq;rcases hq with rfl|rfl<;>decide
theorem yju(L:LibL lib)(s:Str)(hs:s.length<=10000){p:LP}{m:Nat}(h:zko 4 s 0=.ok (p,m)):EvD (evW code lib) big parD [.flat (.string (S s))] [] [] ([.agg p.cells,.flat (.int .i64 0)],false,[],[]):=by
 have hrec:=yqt L 4 0 rfl boxP 3 2 _ ywi s 0 p m hs (by decide) h;obtain⟨F',ty',tx',ps'⟩:=p;have hl2:=fun n=>zb5 (n:=n) F'
 have hl3:=fun n=>zf6 (n:=n) ps'
 simp only[LP.cells]at hrec⊢;simp only[boxP,zjf,rdr,RT,zmf,zzx,n0]at hrec;refine⟨qa rfl,.normal,⟨[(0,.flat (.string (S s))),(2,.ptr 0 0),(3,.ptr 1 0)],[.cell 0 0,.cell 0 3],[],[(48,zjf),(26,[.flat (.int .i64 0)])]⟩,?_,.ret,⟨[(2,.ptr 0 0),(3,.ptr 1 0)],[],[],[(48,[.slc F'.length (zbi F'),.flat (.string (S ty')),.flat (.string (S tx')),.slc ps'.length (zeq ps')]),(26,[.flat (.int .i64 0)]),(RT,rdr m)]⟩,?_,(fun i e=>by cases e),?_⟩
 ·unfold parD yqv zjf
  simp(maxSteps:=999999) (disch:=first|assumption|omega) only[go_sem,simprocAttr,au]
 ·unfold parD yjt DFun.mid zjf
  simp(maxSteps:=999999) (disch:=first|assumption|omega) only[go_sem,simprocAttr,au,hrec,rdr,hl2,hl3]
 ·have hlw:lows 0 [PV.agg [.slc F'.length (zbi F'),.flat (.string (S ty')),.flat (.string (S tx')),.slc ps'.length (zeq ps')],.flat (.int .i64 0)]=true:=by simp only[lows,PV.low,hl2,hl3,wc4]
  unfold parD finV;have hv:([Sum.inr (2,true,4),Sum.inr (3,false,1)]:List (Sum Nat (Nat×Bool×Nat))).mapM (resV ⟨[(2,.ptr 0 0),(3,.ptr 1 0)],[],[],[(48,[.slc F'.length (zbi F'),.flat (.string (S ty')),.flat (.string (S tx')),.slc ps'.length (zeq ps')]),(26,[.flat (.int .i64 0)]),(RT,rdr m)]⟩)=some [.agg [.slc F'.length (zbi F'),.flat (.string (S ty')),.flat (.string (S tx')),.slc ps'.length (zeq ps')],.flat (.int .i64 0)]:=rfl;dsimp only;rw[hv,wau];simp[trim,hlw,zdj,zti]
theorem yjv:y04 Tryz.prog 38 2:=by
 intro cvs w h
 match cvs,h with
 |[p,q],_=>
 refine callsDIn_of_wpSIn Tryz.func38 rfl trivial fun c₀ cs hu=>?_
 simp only[Tryz.ntmps38,wei,waf,wdb,Nat.reduceAdd,Nat.reduceSub,wej,wek,wel,wem,wa5,wai];apply wpSIn_seq;apply wpSIn_region;simp[wpOpsSIn,go_sem,recoverD,hu,Exit.thenS];apply wpSIn_seq;apply wpSIn_seq;apply wpSIn_region;simp[wpOpsSIn,go_sem,Exit.thenS];refine wpSIn_cond (t:=true) (by simp[Act.eval]) ?_;simp only[if_true];refine wpSIn_of_wpIn rfl (wpIn_ret ?_);cases c₀;simp_all[bodyPostS,results,Tryz.results38,Exit.thenS]
theorem ypn(cf:Callee)(n:Nat)(D:DFun){args:List PV}{bx:zae}{oc:List Nun.Loc}{r r':Ans}(h:EvD cf n D args bx oc r)(k:EvD cf n D args bx oc r'):r=r':=by
 obtain⟨_,o,s1,h1,h2⟩:=h;obtain⟨_,o',s1',k1,k2⟩:=k;rw[h1]at k1;cases k1;cases o with
 |exit i=>exact h2.elim
 |ret=>rw[h2]at k2;exact wb9 k2
 |normal=>
  obtain⟨o2,st,m1,m2,m3⟩:=h2;obtain⟨o3,st',l1,l2,l3⟩:=k2;rw[m1]at l1;cases l1;rw[m3]at l3;exact wb9 l3
open Classical in
noncomputable def zsd(lib:Callee):Callee:=fun f args bx oc=>if h:f=18/\∃r,EvD (evW code lib) big parD args bx oc r then some (choose h.2)else none
theorem z9b{args:List PV}{bx:zae}{oc:List Nun.Loc}{r:Ans}(h:EvD (evW code lib) big parD args bx oc r):zsd lib 18 args bx oc=some r:=by
 unfold zsd;rw[dif_pos ⟨rfl,r,h⟩];congr 1;exact ypn _ _ _ (wep (⟨r,h⟩:∃r,EvD (evW code lib) big parD args bx oc r)) h
theorem z9c{Γ:Glob}(hL:zcj Tryz.prog Γ lib):zcj Tryz.prog Γ (zsd lib):=by
 intro f args bx oc vs' os bx' oc' he;unfold zsd at he;split at he
 case isFalse=>cases he
 rename_i h;obtain⟨rfl,hr⟩:=h;have hc:=wep hr;rw[wb9 he]at hc;intro w Fr β vs hp;exact y05 Tryz.checked.mixed (by kernel_rfl) (ypw Tryz.checked.mixed (by kernel_rfl) ygq hL) ywh yjv hc hp
def zvj(lib:Callee):Prop:=∀(s:Str)(p:LP)(m:Nat),s.length<=10000->zko 4 s 0=.ok (p,m)->lib 18 [.flat (.string (S s))] [] []=some ([.agg p.cells,.flat (.int .i64 0)],false,[],[])
theorem ypo(H:zvj lib)(s:Str)(p:LP)(m:Nat)(hs:s.length<=10000)(h:zko 4 s 0=.ok (p,m)):evW code lib 18 [.flat (.string (S s))] [] []=some ([.agg p.cells,.flat (.int .i64 0)],false,[],[]):=zde (by decide) (by kernel_rfl) (H s p m hs h)
theorem ztg(v:Str)(h:v.length<=250):(zqq (valW v)).length<=10000:=by
 have h1:(valW v).length<=(rawV v).length:=z6u _;have h2:∀ws:List Str,(spcW ws).length<=sumW ws:=fun ws=>by
  induction ws with
  |nil=>simp[spcW]
  |cons w ws ih=>
   have e2:sumW (w::ws)=w.length+3+sumW ws:=by simp[sumW]
   rw[zlb,e2];simp only[waf,wb0];omega
 have h3:=z6h v h;have h4:=h2 (zd3 zbr v);unfold rawV at h1;unfold zqq;simp only[wb0,waf,wdb];omega
theorem yjw(HE:zju lib zbr)(HQ:z8g lib (encL 0))(HI:zf2 lib)(HL:zqh lib)(HC:zxk lib)(HP:zcz lib)(HB:zgp lib)(HN:zqi lib)
 (HX:zvj lib) (HCU:zug lib) (HCP:zkn lib) (HR:zx3 lib) (HS:zn8 lib) (HD:zx4 lib) (m:Mail) (hm:m.few) (hc:zja m=0):
 evW code lib 22 [.flat (.string (S (zn2 zbr (encL 0) m)))] [] []=some ([.agg (zie m),.flat (.int .i64 0)],false,[],[]):=by
 obtain⟨q1,q2,q3⟩:=z84 hc;have hm':=hm;obtain⟨h1,h2,h3,h4,h5⟩:=hm';have e1:=ypo HX _ _ 2 (z6s m hm) (z88 m);have e2:=z2x HE HQ HI HL HC HP HB HN m ⟨by omega,by omega,by omega,by omega,by omega⟩;unfold resB at e2;rw[hc,if_pos rfl]at e2;have f1:=z3k HI HP HCU HCP HR HB HS HD (zqq (valW m.fr)) (ztg _ h1);have f2:=z3k HI HP HCU HCP HR HB HS HD (zqq (valW m.to)) (ztg _ h2);have f3:=z3k HI HP HCU HCP HR HB HS HD (zqq (valW m.su)) (ztg _ h3);have g1:=ztg _ h1;have g2:=ztg _ h2;have g3:=ztg _ h3;have hbl:=z6s m hm;rw[q1]at f1;rw[q2]at f2;rw[q3]at f3;clear q1 q2 q3 HE HQ HI HL HC HP HB HN HX HCU HCP HR HS HD hm hc;obtain⟨s,hs⟩:∃s,zn2 zbr (encL 0) m=s:=⟨_,rfl⟩;rw[hs]at e1 e2 hbl⊢;clear hs;obtain⟨v1,hv1⟩:∃v,valW m.fr=v:=⟨_,rfl⟩;obtain⟨v2,hv2⟩:∃v,valW m.to=v:=⟨_,rfl⟩;obtain⟨v3,hv3⟩:∃v,valW m.su=v:=⟨_,rfl⟩;simp only[y10,hv1,hv2,hv3]at e1 f1 f2 f3 g1 g2 g3;obtain⟨m1,m2,m3,m4,m5⟩:=m;clear hv1 hv2 hv3;dsimp only at e1 e2 f1 f2 f3;have hnp2:=zcu (zda zbb);have hnp3:=zcu (zda zci);have hlo2:=fun n=>zb5 (n:=n) (zda zbb)
 have hlo3:=fun n=>zb5 (n:=n) (zda zci)
 have hl1:(zk9 v1 v2 v3).length=5:=rfl;have hl2:(zda zbb).length=2:=rfl;have hl3:(zda zci).length=2:=rfl;simp only[LP.cells,zeq,hl1,hl2,hl3,wcf,wai,wa5,waf,wdb]at e1;generalize zbi (zda zbb)=fp at*;generalize zbi (zda zci)=fh at*;generalize zfe zbb=t1 at*;generalize zfe zci=t2 at*;simp only[zk9,zbi,zkl,toS,zn1,ctN,zjz,zk8]at e1;simp only[zqq,wai,wa5,wa4]at f1 f2 f3;simp only[zqq,wb0,waf,wdb]at g1 g2 g3;have hbv:bound=4294967296:=rfl;simp only[zie]at e2⊢;refine zab zwx (qa rfl) ?_;simp(maxSteps:=999999) (disch:=first|assumption|omega) only[go_sem,simprocAttr,au,e1,e2,f1,f2,f3,hnp2,hnp3,hlo2,hlo3,BEq.rfl,zdr,zbv,zbz,zb9,zwc,wb0,waf,wdb]
theorem ywj(HE:zju lib zbr)(HQ:z8g lib (encL 0))(HI:zf2 lib)(HL:zqh lib)(HC:zxk lib)(HP:zcz lib)(HB:zgp lib)(HN:zqi lib)
 (HX:zvj lib) (HCU:zug lib) (HCP:zkn lib) (HR:zx3 lib) (HS:zn8 lib) (HD:zx4 lib)
 (HA:evW code lib 15 [] [] []=some ([.flat (.bool true)],false,[],[])) (m:Mail) (h1:m.fr.length<=9223372036854775807) (h2:m.to.length<=9223372036854775807) (h3:m.su.length<=9223372036854775807) (h4:m.te.length<=9223372036854775807) (h5:m.ht.length<=9223372036854775807):
 evW code lib 7 [.agg (zie m)] [] []=some ([.flat (.bool true)],false,[],[]):=by
 have e1:=ydv (lib:=lib) m h1 h2 h3 h4 h5;have e3:=z2x HE HQ HI HL HC HP HB HN m.short (zx6 m);have e4:=yhu (lib:=lib) m.short (zx6 m);have e5:=fun hc=>yjw HE HQ HI HL HC HP HB HN HX HCU HCP HR HS HD m.short (yjb m) hc
 clear HE HQ HI HL HC HP HB HN HX HCU HCP HR HS HD;unfold resB at e3;obtain⟨s,hs⟩:∃s,zn2 zbr (encL 0) m.short=s:=⟨_,rfl⟩;obtain⟨c,hc⟩:∃c,zja m.short=c:=⟨_,rfl⟩;rw[hs,hc]at e3;rw[hc]at e4;rw[hs,hc]at e5;clear hs hc;obtain⟨⟨b1,b2,b3,b4,b5⟩,hb⟩:∃b,m.short=b:=⟨_,rfl⟩;rw[hb]at e1 e3 e4 e5;clear hb;obtain⟨m1,m2,m3,m4,m5⟩:=m;simp only[zie]at e1 e3 e4 e5⊢;refine zab zjg (qa rfl) ?_;by_cases hc:c=0
 ·subst hc
  have e5:=e5 rfl;simp only[if_true]at e3;simp only[n0]at e3;simp(maxSteps:=999999) (disch:=first|assumption|omega) only[go_sem,simprocAttr,au,e1,e3,e5,HA,BEq.rfl]
 ·clear e5
  rw[if_neg hc]at e3;have hc':((c:Int)=0)=False:=by apply eq_false;omega
  simp(maxSteps:=999999) (disch:=first|assumption|omega) only[go_sem,simprocAttr,au,e1,e3,e4,HA,hc',BEq.rfl]
end Nun
namespace Go.Proofs.YtmpiobfdchlikaaGreatDoor
open Go.RowKit Nun
def yjx:List Value->Option TupRes
 |[.string s,.string p]=>if s.size<=1000000000 then some (flt [.string ⟨(Lib.trimSuffix s.data.toList p.data.toList).toArray⟩,.bool (Lib.hasSuffix s.data.toList p.data.toList)])else none
 |_=>none
theorem ypp{Γ:Glob}:zqr Tryz.prog Γ 133 yjx:=zh2 (by kernel_rfl) fun vs R h=>by
 unfold yjx at h;split at h
 ·split at h
  ·rename_i hs
   cases h;exact⟨_,rfl,by simp[zdi],fun w _=>(Tryz.strings_CutSuffix _ _ w (by omega)).mono (by rintro e w' ⟨rfl,rfl⟩;exact⟨rfl,zlf⟩)⟩
  ·cases h
 ·cases h
def tDec:List Value->Option TupRes
 |[.string s]=>if s.size<=1000000 then some (match zhn s.data.toList with
  |some t=>flt [.string (S t),.int .i64 0]
  |none=>flt [.string (S []),.int .i64 7])else none
 |_=>none
theorem ywk{Γ:Glob}:zqr Tryz.prog Γ 139 tDec:=zh2 (by kernel_rfl) fun vs R h=>by
 unfold tDec at h;split at h
 ·rename_i s
  split at h
  ·rename_i hs
   have hc:=fun w=>yaw s w (by omega)
   cases hd:zhn s.data.toList<;>
    (rw[hd]at h hc
     cases h;exact⟨_,rfl,by simp[zdi],fun w _=>(hc w).mono (by rintro e w' ⟨rfl,hb⟩;exact⟨rfl,hb⟩)⟩)
  ·cases h
 ·cases h
noncomputable def ywl:List (FuncId×Nun.Callee):=[(32,zjk),(74,zjk),(79,zjk),(132,zjk),(82,zjk),(18,zsd zjk),(95,zt4),(28,zt4),(57,zxy),(34,zlo (oneF 34 yow)),(35,zlo (oneF 35 sCon)),(150,zlo (oneF 150 (sEnc zbr))),(48,zlo (oneF 48 (sEnc (encL 0)))),(133,zhp 133 yjx),(139,zhp 139 tDec),(61,yi9 61 z0x)]
noncomputable def zmh:Nun.Callee:=z06 ywl
theorem ypq:zcj Tryz.prog Γ36 zmh:=z61 fun p hp=>by
 have h14:zcj Tryz.prog Γ36 zjk:=ypl fun w h=>h.1
 simp only[ywl,waq,wet,or_false]at hp;rcases hp with rfl|rfl|rfl|rfl|rfl|rfl|rfl|rfl|rfl|rfl|rfl|rfl|rfl|rfl|rfl|rfl
 ·exact h14
 ·exact h14
 ·exact h14
 ·exact h14
 ·exact h14
 ·exact z9c h14
 ·exact z43
 ·exact z43
 ·exact ydg
 ·exact z3b (by decide) y3i
 ·exact z3b (by decide) fCon
 ·exact z3b (by decide) fB64
 ·exact z3b (by decide) fQp
 ·exact zd5 (by decide) ypp
 ·exact zd5 (by decide) ywk
 ·exact yja (by decide) y1t
theorem l37{f:FuncId}{c:Nun.Callee}{args:List PV}{bx:zae}{oc:List Nun.Loc}{r:Nun.Ans}(h:ywl.lookup f=some c)(k:c f args bx oc=some r):zmh f args bx oc=some r:=by
 unfold zmh;rw[z60 h];exact k
theorem yjy:zf2 zmh:=fun s c hs=>l37 rfl (z9a s c hs)
theorem yjz:zcz zmh:=fun s p hs hp=>l37 rfl (yjp s p hs hp)
theorem ywm:zug zmh:=fun s w hs=>l37 rfl (yjr s w hs)
theorem ypr:zkn zmh:=fun s w hs=>l37 rfl (ybu s w hs)
theorem ywn:zx3 zmh:=fun s o n hs ho hn=>l37 rfl (yjs s o n hs ho hn)
theorem yj0:zvj zmh:=fun s p m hs h=>l37 rfl (z9b (yju ywg s hs h))
theorem yj1:zgp zmh:=fun f args bx oc r h=>by
 have hf:f=95\/f=28:=by
  unfold zt4 at h;split at h
  ·exact .inl (by assumption)
  ·split at h
   ·exact .inr (by assumption)
   ·cases h
 rcases hf with rfl|rfl
 ·exact l37 rfl h
 ·exact l37 rfl h
theorem ybv:zqi zmh:=fun L hL=>l37 rfl (ydf L hL)
theorem ybw:zqh zmh:=fun s c hs=>l37 rfl (z3c rfl (by unfold yow;dsimp only;rw[if_pos (by rw[zai];exact hs),yhv];rfl))
theorem yj2:zxk zmh:=fun s hs=>l37 rfl (z3c rfl (by unfold sCon;dsimp only;rw[if_pos (by rw[zai];exact hs),z6f,z6f,zz8 _ (by simp)]))
theorem yj3:zju zmh zbr:=fun s hs=>⟨by rw[zxz _ s (wab _)];omega,l37 rfl (z3c rfl (by unfold sEnc;dsimp only;rw[if_pos (by rw[zai];omega),z6f]))⟩
theorem yqw:z8g zmh (encL 0):=fun s hs=>⟨by have:=zlc s 0;omega,l37 rfl (z3c rfl (by unfold sEnc;dsimp only;rw[if_pos (by rw[zai];omega),z6f]))⟩
theorem yps:zn8 zmh:=fun s w hs=>l37 rfl (by
 have h:=zld (k:=133) (spec:=yjx) (args:=[.flat (.string (S s)),.flat (.string (S w))]) rfl (by unfold yjx;dsimp only;rw[zai,if_pos hs,zjj,zjj]);rw[h];rfl)
theorem ywo:zx4 zmh:=fun s hs=>l37 rfl (by
 have h:=zld (k:=139) (spec:=tDec) (args:=[.flat (.string (S s))]) rfl (by unfold tDec;dsimp only;rw[zai,if_pos hs,zjj]);rw[h];cases zhn s with
 |some t=>rfl
 |none=>rfl)
theorem yj4:zor zmh:=fun s F b hs h=>l37 rfl (by
 have e:z0x [.string (S s)]=some ⟨zan F,F.length,2,41,[.int .i64 b,.int .i64 0]⟩:=by
  unfold z0x;dsimp only;rw[if_pos (by rw[zai];exact hs),z6f,h]
 show((zv7 [.flat (.string (S s))]).bind z0x).map _=_;rw[show zv7 [.flat (.string (S s))]=some [.string (S s)]from rfl,wat,e,wau,z0y];rfl)
end Go.Proofs.YtmpiobfdchlikaaGreatDoor
namespace Nun
open Go
variable {H:Type} {enc:TypeId × Value→H}
theorem zfk{a:Assume}{C:Checked}{os:Os}{f:FuncId}{fn:Func}{s:ChangeSpec}{conds:List PathCond}{apart fresh handsOn again:Bool}{X:World->Array Value->Prop}
 (hX:∀(w w':World)(args:Array Value),w.heap=w'.heap->X w args->X w' args)
 (own:ownKnob C.prog.godebug=none) (started:os.Started) (noInit:C.prog.inits.idxOf? f=none) (hfn:C.prog.funcs[f]?=some fn)
 (witness:∃(w:World)(tape:Tape)(i:Input),w.os=os/\(w.forCall tape i).Shaped C.prog/\i.vars=[]/\Input.okWide C.prog (w.forCall tape i) .any w.heap.size f i/\
   ((s.pre enc C.prog fn conds apart (w.forCall tape i).memory i.args/\X (w.forCall tape i).memory i.args)/\sizedMet enc C.prog fn (OpenSpec.ofChange s) apart (w.forCall tape i).memory i.args)/\a.holds C.prog (lone (Frame.enter C.prog f i.args .normal) [] (w.forCall tape i)))
 (contract:∀(W:World)(base:Nat)(args:Array Value)(ds gs:List (DataW H))(before:List MemPlace),
   (∀(j:Nat) t v,fn.params[j]?=some t->args[j]?=some v->Value.okWide C.prog W .any base t v)->
   DataW.Whole enc C.prog fn.params.toList s.vars apart W args.toList ds gs before->
   conds.all (PathCond.test C.prog ⟨fn.params.toList,ds,s.plain.varTypes C.prog,gs⟩)=true->
   (DataW.weightsEach C.prog (fn.params.toList++s.plain.varTypes C.prog) (ds++gs)).all (·<=reachBytes)=true->X W args->
   W.ShapedOpen C.prog->
   a.holds C.prog (lone (Frame.enter C.prog f args .normal) [] W)->
   Calls C.prog f args W fun e W'=>∃v,e=.returned v/\s.post enc C.prog fn apart fresh handsOn again W args v W'):
 ReturnsInHanded a C os f .any (fun w args=>(s.pre enc C.prog fn conds apart w args/\X w args)/\sizedMet enc C.prog fn (OpenSpec.ofChange s) apart w args) (s.post enc C.prog fn apart fresh handsOn again):=by
 refine returnsInHanded_of_calls own started noInit witness ?_;intro w tape i _ hsh _ hok hpre hholds;obtain⟨_,_,_,fn',hfn',_,_,_,_,hval⟩:=hok;have e:fn'=fn:=wb9 (hfn'.symm.trans hfn);subst e;obtain⟨⟨⟨ds,gs,before,hw,hc⟩,hx⟩,hz⟩:=hpre;have hw':=DataW.Whole.of_heap (w':=w.forCall tape i) (by rfl) hw;refine(contract (w.forCall tape i) w.heap.size i.args ds gs before hval hw' hc (hz.weights hw) (hX _ _ _ (by rfl) hx) hsh hholds).mono fun e W' ⟨v,he,hp⟩=>?_
 subst he;exact ChangeSpec.post_blind hp
end Nun
section
namespace Nun
open Go
theorem z3q{H:Type}{enc:TypeId×Value->H}{P:Program}{w:World}{base:Nat}{sp:Nat->Bool}{held:Bool}{fuel:Nat}{t e:TypeId}{n:Nat}{cs:List Value}{zs:List (List UInt8)}{p:List MemPlace}
 (ht:P.underlying t=some (.array n e)) (he:P.underlying e=some .string) (hce:P.cellsOf e=1)
 (h:DataW.trod enc P w base sp held fuel t cs=some (.agg (zs.map fun z=>.lit (.string z)),p)) (i:Nat) (z:List UInt8) (hz:zs[i]?=some z):cs[i]?=some (.string ⟨z.toArray⟩):=by
 obtain⟨xs,m,rfl,hx,hl,hn,hel⟩:=DataW.trod_array ht h;simp only[Prod.mk.injEq,DataW.agg.injEq]at hx;have hi:i<n:=by
  have h1:zs.length=xs.length:=by simpa using congrArg List.length hx.1
  have h2:=(qg hz).1;omega
 have hxi:=hel i hi;rw[hce,Nat.mul_one]at hxi;obtain⟨y,hy⟩:∃y,xs[i]?=some y:=⟨_,qe (by omega)⟩;rw[hy]at hxi;obtain⟨s,h1,rfl,_⟩:=DataW.trod_string he hxi;have h2:(xs.map (·.1))[i]?=some (.lit (.string s.data.toList)):=by simp[hy]
 rw[<-hx.1]at h2;simp[hz]at h2;have h3:=congrArg (·[0]?) h1;simp[List.getElem?_take,wal]at h3;rw[h3,h2]
end Nun
namespace Go.Proofs.YtmpiobfdchlikaaGreatDoor
open Go.ChangeShapes Go.WideShapes Go.ChangeAt Go.RowKit Nun
theorem y14:Tryz.prog.globalNamed "nuncio/b64.table"=some 1:=by kernel_rfl
theorem y15:(Tryz.prog.globals[1]?).map (·.type)=some 235:=by kernel_rfl
theorem ywp:Tryz.prog.cellsOf 9=1:=by kernel_rfl
end Go.Proofs.YtmpiobfdchlikaaGreatDoor
end
namespace Go.Proofs.YtmpiobfdchlikaaGreatDoor
open Go.ChangeShapes Go.WideShapes Go.ChangeAt Go.RowKit Nun
abbrev ywq:List (String×DataW Unit):=[("unicode/utf8.acceptRanges",Rows.laid_unicode_utf8_acceptRanges),("nuncio/b64.table",Rows.laid_nuncio_b64_table),("unicode/utf8.first",Rows.laid_unicode_utf8_first)]
noncomputable def y16(os:Os):World:=
 let w0:=World.doorLaid Tryz.prog 400 os
 {w0 with heap:=w0.heap.modify 2 fun
  | .cells _ t frozen=>.cells (Lib.firstTab.map fun z=>Value.int .u8 z).toArray t frozen
  |o=>o}
theorem yj5(os:Os)(args:Array Value):laidMetH Tryz.prog ywq ((y16 os).forCall (fun _ _=>0) ⟨#[],args,[]⟩).memory:=
 laidMetH_of_parts3 (fuel:=8) (laidMet_of_run' 8 (by kernel_rfl) (by kernel_rfl)) (by kernel_rfl) (by kernel_rfl)
theorem z63{W:World}(h:laidMetH Tryz.prog ywq W):Tab W:=by
 rw[MakeChecks.laidMetH_plain _ _ _ (by kernel_rfl)]at h;obtain⟨ps,⟨_,_,_,_,_,_,_,_,_,_,⟨g0,t0,cs0,f0,p0,q0,hg0,ht0,hv0,hd0,_,_⟩,_⟩,_,_⟩:=h;obtain rfl:=wb9 (y14.symm.trans hg0);obtain rfl:=wb9 (y15.symm.trans ht0);intro i hi;have hr:([zjy 0,zjy 1,zjy 2,zjy 3]:List (List UInt8))[i]?=some (zjy i):=by
  match i,hi with
  |0,_=>rfl
  |1,_=>rfl
  |2,_=>rfl
  |3,_=>rfl
 have:=z3q (zs:=[zjy 0,zjy 1,zjy 2,zjy 3]) Tryz.underlying235 Tryz.underlying9 ywp hd0 i _ hr;have hc:=World.var?_cell hg0 hv0 i;rw[hc];simpa using this
end Go.Proofs.YtmpiobfdchlikaaGreatDoor
section
set_option synthInstance.maxSize 4000
set_option maxRecDepth 100000
namespace Nun
open Go Go.RowKit Go.Proofs Go.Proofs.YtmpiobfdchlikaaGreatDoor
theorem y17{W:World}(hL:laidMetH Tryz.prog ywq W)(h:W.ShapedOpen Tryz.prog):G36 W:=
 ⟨Go.Proofs.cell_of_shapedOpen_int (zero:=#[.int .i64 0]) (t:=3) h (of_decide_eq_true (by kernel_rfl)) (by kernel_rfl) rfl (by kernel_rfl) (by kernel_rfl) Tryz.underlying3,z63 hL⟩
theorem zye{n:Nat}{ps:List PV}(h:fit Tryz.prog n 9 ps):∃s:Str,ps=[.flat (.string (S s))]/\s.length<=9223372036854775807:=by
 cases n with
 |zero=>cases h
 |succ n=>
  simp only[fit,Tryz.underlying9]at h;obtain⟨s,rfl,hs⟩:=h;refine⟨s.data.toList,rfl,?_⟩;have:s.data.toList.length=s.size:=rfl;rw[this];unfold maxLen at hs;omega
theorem ypt{n:Nat}{ps:List PV}(h:fit Tryz.prog n 23 ps):∃m:Mail,ps=zie m/\m.fr.length<=9223372036854775807/\m.to.length<=9223372036854775807/\m.su.length<=9223372036854775807/\m.te.length<=9223372036854775807/\m.ht.length<=9223372036854775807:=by
 cases n with
 |zero=>cases h
 |succ n=>
  simp only[fit,Tryz.underlying23]at h;obtain⟨xss,rfl,hl,hx⟩:=h;obtain⟨a,b,c,d,e,rfl⟩:∃a b c d e,xss=[a,b,c,d,e]:=by
   match xss,hl with
   |[a,b,c,d,e],_=>exact⟨a,b,c,d,e,rfl⟩
  obtain⟨s0,rfl,h0⟩:=zye (hx 0 _ a rfl rfl);obtain⟨s1,rfl,h1⟩:=zye (hx 1 _ b rfl rfl);obtain⟨s2,rfl,h2⟩:=zye (hx 2 _ c rfl rfl);obtain⟨s3,rfl,h3⟩:=zye (hx 3 _ d rfl rfl);obtain⟨s4,rfl,h4⟩:=zye (hx 4 _ e rfl rfl);exact⟨⟨s0,s1,s2,s3,s4⟩,rfl,h0,h1,h2,h3,h4⟩
theorem yj6{n:Nat}{p:PV}(h:fitA Tryz.prog n 23 p):∃m:Mail,p=.agg (zie m)/\m.fr.length<=9223372036854775807/\m.to.length<=9223372036854775807/\m.su.length<=9223372036854775807/\m.te.length<=9223372036854775807/\m.ht.length<=9223372036854775807:=by
 simp only[fitA,Tryz.underlying23]at h;obtain⟨ps,rfl,h⟩:=h;obtain⟨m,rfl,hm⟩:=ypt h;exact⟨m,rfl,hm⟩
theorem ok37:zcj Tryz.prog Γ36 (evW code zmh):=ypw Tryz.checked.mixed (by kernel_rfl) ygq ypq
theorem zyz(W:World)(hm:G36 W)(pvs:List PV)(vs:List Value)(hr:Rds W (Fr0 W) [] pvs vs)(hf:fits Tryz.prog Tryz.f7.params.toList pvs):Calls Tryz.prog 7 vs.toArray W (Ret (.bool true) W):=by
 rw[Tryz.params7]at hf
 match pvs,hf with
 |[p],⟨⟨n,h1⟩,_⟩=>
  obtain⟨m,rfl,a1,a2,a3,a4,a5⟩:=yj6 h1;exact ykp ok37 (by decide) (ywj yj3 yqw yjy ybw yj2 yjz yj1 ybv yj0 ywm ypr ywn yps ywo (y1v yj3 yqw yjy ybw yj2 yjz yj1 ybv yj4) m a1 a2 a3 a4 a5) hm hr
end Nun
namespace Go.Proofs.YtmpiobfdchlikaaGreatDoor
open Go.RowKit Nun
open Go.ChangeShapes Go.WideShapes Go.ChangeAt
namespace emailBackDone
theorem own:ownKnob Tryz.prog.godebug=none:=by kernel_rfl
theorem kids:Kids Tryz.prog (·<Tryz.prog.types.size):=kids_rows (by kernel_rfl) (by kernel_rfl)
theorem full:∀t e,t<Tryz.prog.types.size->Tryz.prog.underlying t=some (.slice e)->0<Tryz.prog.cellsOf e:=slices_full_of Tryz.prog (by kernel_rfl)
theorem typed:∀t∈Tryz.f7.params.toList,t<Tryz.prog.types.size:=fun t ht=>by
 rw[Tryz.params7]at ht;have hall:([23].all fun u=>decide (u<Tryz.prog.types.size))=true:=by kernel_rfl
 exact of_decide_eq_true (wa9.1 hall t ht)
set_option maxRecDepth 100000 in
theorem lifted(os:Os)(started:os.Started)(H:Type)(enc:TypeId×Value->H):
 ReturnsInHanded {} Tryz.checked os 7 .any (fun w args=>(Rows.emailBackSpec.pre enc Tryz.prog Tryz.f7 [] false w args/\laidMetH Tryz.prog [("unicode/utf8.acceptRanges",Rows.laid_unicode_utf8_acceptRanges),("nuncio/b64.table",Rows.laid_nuncio_b64_table),("unicode/utf8.first",Rows.laid_unicode_utf8_first)] w)/\sizedMet enc Tryz.prog Tryz.f7 (OpenSpec.ofChange Rows.emailBackSpec) false w args)
  (Rows.emailBackSpec.post enc Tryz.prog Tryz.f7 false true false false):=by
 refine zfk (C:=Tryz.checked) (X:=fun w _=>laidMetH Tryz.prog [("unicode/utf8.acceptRanges",Rows.laid_unicode_utf8_acceptRanges),("nuncio/b64.table",Rows.laid_nuncio_b64_table),("unicode/utf8.first",Rows.laid_unicode_utf8_first)] w) (fun _ _ _ hh h=>h.of_heap hh) own started (by kernel_rfl) Tryz.func7
  (ChangeSpec.witness_shaped (enc:=enc) (C:=Tryz.checked) (os:=os) (X:=fun w _=>laidMetH Tryz.prog [("unicode/utf8.acceptRanges",Rows.laid_unicode_utf8_acceptRanges),("nuncio/b64.table",Rows.laid_nuncio_b64_table),("unicode/utf8.first",Rows.laid_unicode_utf8_first)] w) false (y16 os) #[.agg #[.string ⟨#[]⟩,.string ⟨#[]⟩,.string ⟨#[]⟩,.string ⟨#[]⟩,.string ⟨#[]⟩]] 8 rfl (World.shaped_of_RefB (by kernel_rfl) (by kernel_rfl)) (by kernel_rfl) (by kernel_rfl) (by kernel_rfl) (yj5 os _)) ?_
 intro W base args ds gs before hval0 hW _ _ hL hsh _;have hW':=hW;obtain⟨p,q,hA,_⟩:=hW;obtain⟨pvs,k1,k2⟩:=z4h kids full typed (fun j t v h1 h2=>hval0 j t v (by simpa using h1) (by simpa using h2)) hA;have hlen:=zv6 hA;have hc:=zyz W (y17 hL hsh) pvs args.toList k1 k2;rw[Array.toArray_toList]at hc;refine hc.mono fun e W' ⟨he,bel⟩=>?_
 subst he;refine⟨_,rfl,yko (tb:=4) kids full hW' rfl ?_ rfl Tryz.underlying4 typed bel⟩;rw[Tryz.params7]at hlen
 match ds,hlen with
 |[d0],_=>rfl
theorem over:Rows.emailBackRow.holds Tryz.pinned (OpenSpec.ofChange Rows.emailBackSpec):=
 OpenClaim.holds_of_wide 7 Tryz.f7 rfl rfl rfl rfl rfl rfl rfl ⟨rfl,rfl,rfl,rfl,rfl⟩ rfl rfl rfl rfl rfl (by kernel_rfl) Tryz.func7 (by kernel_rfl)
  (of_decide_eq_true (by kernel_rfl)) (by unfold Func.isWrapper;first|(rw[if_pos (by decide+kernel)];kernel_rfl)|(rw[if_neg (by decide+kernel)];exact⟨rfl,rfl⟩))
  (fun os started H enc _=>lifted os started H enc)
theorem proved:Rows.EmailBackCardSaid:=
 Claim7.holds_tied_plain_at .later [] [.data,.data,.pinned] true (true,"e420b8c8c04be5be850ab7770be3e24bcc9ecd9650fc6a74deb89aa4cf9c60c4") true
  over (fun _ h=>by cases h) (by kernel_rfl) (fun _ h=>by cases h) emailBack_row_tie rfl ⟨rfl,rfl⟩ (by kernel_rfl) rfl
  (fun f fn hf hfn=>by
    obtain rfl:f=7:=wb9 ((show Tryz.prog.funcNamed "nuncio/nunciolaw36.EmailBack"=some 7 by kernel_rfl).symm.trans hf) |>.symm;obtain rfl:fn=Tryz.f7:=(wb9 (Tryz.func7.symm.trans hfn)).symm;exact⟨by kernel_rfl,fun j t ht=>by
     rw[Tryz.params7]at ht;have hm:t∈[23]:=by simpa using Array.mem_of_getElem? ht
     have hall:([23].all fun u=>!Tryz.prog.wantsStandIn u)=true:=by kernel_rfl
     exact(show Tryz.prog.wantsStandIn t=false by simpa using List.all_eq_true.1 hall t hm)⟩)
  (by kernel_rfl)
end emailBackDone
end Go.Proofs.YtmpiobfdchlikaaGreatDoor
end

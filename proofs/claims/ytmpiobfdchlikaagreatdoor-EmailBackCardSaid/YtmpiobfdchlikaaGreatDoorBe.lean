/- Texts of this proof, merged. -/
import Derived.Test.YtmpiobfdchlikaaGreatDoorBd
import Derived.Lib.Index
import Derived.Lib.IndexMore
import Derived.Lib.LastIndexByte
import Derived.Lib.Strings
import Derived.RecoverIn
set_option linter.all false
set_option maxHeartbeats 4000000
namespace Nun
open Go Go.RowKit Go.Proofs Go.Proofs.YtmpiobfdchlikaaGreatDoor
variable {lib:Callee}
theorem z8a(s:Str)(hs:s.length<=100000000)(fr:Nat)(hk:fr+1<=s.length):
 match(if zfi.contains (zcm s (fr+1))then zuu s (fr+1+(zcm s (fr+1)).length)else none)with
 |some (l,p)=>evW code lib 142 [.flat (.string (S s)),.flat (.int .i64 (fr:Nat))] [] []=some ([.agg (zas ⟨111,zcm s (fr+1),[],l,fr,p⟩),.flat (.bool true)],false,[],[])
 |none=>∃t,evW code lib 142 [.flat (.string (S s)),.flat (.int .i64 (fr:Nat))] [] []=some ([.agg (zas t),.flat (.bool false)],false,[],[]):=by
 have hz:(⟨#[]⟩:ByteArray)=S []:=rfl;have ez0:zas Z0=[.flat (.int .u8 0),.flat (.string (S [])),.flat (.string (S [])),.slc 0 [],.flat (.int .i64 0),.flat (.int .i64 0)]:=rfl;have e111:((UInt8.toNat 111:Nat):Int)=111:=rfl;have hW:=z2o (lib:=lib) s (fr+1) (by omega) hk;have hI:=yhn (lib:=lib) zfi (zcm s (fr+1)) (by decide);have hna:=z5l (lib:=lib);have hwl:=zkh hk;simp only[wd1,wd2]at hW;obtain⟨w,hw⟩:∃w,zcm s (fr+1)=w:=⟨_,rfl⟩;rw[hw]at hW hI hwl⊢;cases hc1:zfi.contains w with
 |false=>
  rw[hc1]at hI;simp only[wbf,if_false];refine⟨⟨111,w,[],[],fr,0⟩,?_⟩;simp only[zas,zbp,wd8,wdb,e111,n0];refine zab zhz (qa rfl) ?_;simp(maxSteps:=999999) (disch:=first|assumption|omega) only[go_sem,simprocAttr,au,hz,ez0,hW,hI,hna,zbh]
 |true=>
  rw[hc1]at hI;simp only[if_true]
  have hrel:=zic (body:=evC (evW code lib) big zdz) (live:=[0,1,4,6]) (nb:=2)
   (fun(_:Unit)(q:List Att×Nat)=>(⟨[(0,.flat (.string (S s))),(1,.flat (.int .i64 (q.2:Nat))),(4,.ptr 0 0),(6,.ptr 1 0)],[.cell 1 3,.cell 0 3],[],[(137,zas Z0),(137,bR q.1 w fr 0)]⟩:St))
   (zjh s) none (fun a o st=>match a with
     |some c=>o=.ret/\st=⟨[(4,.ptr 0 0),(5,.flat (.bool true))],[.cell 1 3],[],[(137,bR c.1 w fr c.2),(137,bR c.1 w fr c.2)]⟩
     |none=>o=.ret/\∃t ys,st=⟨[(4,.ptr 0 0),(5,.flat (.bool false))],[.cell 1 3],[],(137,zas t)::ys⟩)
   (fun a=>a.2<=s.length/\a.1.length<=a.2) (fun a=>s.length - a.2) (fun _ ⟨l,j⟩ hi=>?_) (fun _ ⟨l,j⟩ hi=>?_) (fun a c hi h=>zve a c hi h) (n:=s.length+1) (m:=big) () ([],fr+1+w.length) ⟨hwl,wa7 _⟩ (by dsimp only;omega) (by unfold big;dsimp only;omega)
  ·obtain⟨o,st,hl,hq⟩:=hrel
   have hopenE:runS (zjh s) none (s.length+1) ([],fr+1+w.length)=zuu s (fr+1+w.length):=rfl;rw[hopenE]at hq;simp only[ez0,bR]at hl;simp only[zas,e111,n0,zbp,wd8,wdb,wd1,wd2]at hl;cases hE:zuu s (fr+1+w.length)with
   |some c=>
    rw[hE]at hq;obtain⟨rfl,rfl⟩:=hq;dsimp only;refine zab zhz (qa rfl) ?_;simp only[bR,zas,e111]at hl⊢;simp(maxSteps:=999999) (disch:=first|assumption|omega) only[go_sem,simprocAttr,au,hz,ez0,hW,hI,hna,hl,zbh,zax,zfj]
   |none=>
    rw[hE]at hq;obtain⟨rfl,t,ys,rfl⟩:=hq;dsimp only;refine⟨t,?_⟩;refine zab zhz (qa rfl) ?_;simp only[bR,zas,e111]at hl⊢;simp(maxSteps:=999999) (disch:=first|assumption|omega) only[go_sem,simprocAttr,au,hz,ez0,hW,hI,hna,hl,zbh,zax,zfj]
  ·have:=zyv (lib:=lib) s w hs fr l j hi.1 hi.2
   cases hst:zjh s (l,j)with
   |inl c=>rw[hst]at this;exact⟨(),this⟩
   |inr c=>
    rw[hst]at this;cases c with
    |none=>
     obtain⟨t,ys,h4⟩:=this;exact⟨_,_,h4,by simp,rfl,t,ys,rfl⟩
    |some c=>exact⟨_,_,this,by simp,rfl,rfl⟩
  ·simp(maxSteps:=999999) (disch:=first|assumption|omega) only[go_sem,simprocAttr,au]
theorem yn0(s:Str)(hs:s.length<=100000000)(k:Nat)(hk:k<s.length):
 match zuv s k with
 |some t=>evW code lib 89 [.flat (.string (S s)),.flat (.int .i64 (k:Nat))] [] []=some ([.agg (zas t),.flat (.bool true)],false,[],[])
 |none=>∃t,evW code lib 89 [.flat (.string (S s)),.flat (.int .i64 (k:Nat))] [] []=some ([.agg (zas t),.flat (.bool false)],false,[],[]):=by
 have hz:(⟨#[]⟩:ByteArray)=S []:=rfl;have ez0:zas Z0=[.flat (.int .u8 0),.flat (.string (S [])),.flat (.string (S [])),.slc 0 [],.flat (.int .i64 0),.flat (.int .i64 0)]:=rfl;have e99:((UInt8.toNat 99:Nat):Int)=99:=rfl;have e116:((UInt8.toNat 116:Nat):Int)=116:=rfl;have e60:((UInt8.toNat 60:Nat):Int)=60:=rfl;have e62:((UInt8.toNat 62:Nat):Int)=62:=rfl;have hg:s[k]?=some s[k]:=qe hk;obtain⟨c,hc⟩:∃c,s[k]=c:=⟨_,rfl⟩;rw[hc]at hg;have hkl:k<=s.length:=by omega
 have hp60:zav s [60] k=decide (c.toNat=60):=by
  rw[zc5 hkl,yuv,hg,decide_eq_decide,war];exact⟨fun h=>by rw[h];rfl,fun h=>wdv.1 h⟩
 have hB:=ze5 (lib:=lib) s [60,47] k (by omega) (by decide) (by omega);unfold zuv;cases hp1:zav s [60,47] k with
 |true=>
  rw[hp1]at hB;have h60:(c.toNat=60)=True:=eq_true (by
   have h:=hp1;rw[zc5 hkl]at h;have hd:s.drop k=s[k]::s.drop (k+1):=wcm hk;rw[hd,hc]at h;simp only[List.isPrefixOf,wb1,beq_iff_eq]at h;rw[<-h.1];rfl)
  have h2:=zt5 hkl (by rw[<-zc5 hkl];exact hp1);simp only[if_true,waf,wdb,wbx,Nat.reduceAdd]at h2⊢;have hW:=z2o (lib:=lib) s (k+2) (by omega) h2;have h3:=zkh h2;have hI:=yhn (lib:=lib) zfi (zcm s (k+2)) (by decide);have hV:=yak (lib:=lib) (zcm s (k+2));have hna:=z5l (lib:=lib);have hT:=ze5 (lib:=lib) s [62] (k+2+(zcm s (k+2)).length) (by omega) (by decide) (by omega);simp only[wd1,wde]at hW hT;obtain⟨w,hw⟩:∃w,zcm s (k+2)=w:=⟨_,rfl⟩;rw[hw]at hW hI hV hT h3⊢;have e2:((2:Nat):Int)=2:=rfl;have e5:k+2+w.length+1=k+(2+w.length+1):=by omega
  cases hc1:zfi.contains w with
  |false=>
   rw[hc1]at hI;simp only[wdd,wbf,if_false];refine⟨⟨99,w,[],[],k,k+2+w.length+1⟩,?_⟩;simp only[zas,e99,zbp,wd8,wdb];refine zab zd8 (qa rfl) ?_;simp(maxSteps:=999999) (disch:=first|assumption|omega) only[go_sem,simprocAttr,au,hz,hg,h60,hB,hW,hI,hna,e2,zbh]
  |true=>
   rw[hc1]at hI;cases hc2:zqg w with
   |true=>
    rw[hc2]at hV;simp only[wbe,wdd,wdc,wbf,if_false];refine⟨⟨99,w,[],[],k,k+2+w.length+1⟩,?_⟩;simp only[zas,e99,zbp,wd8,wdb];refine zab zd8 (qa rfl) ?_;simp(maxSteps:=999999) (disch:=first|assumption|omega) only[go_sem,simprocAttr,au,hz,hg,h60,hB,hW,hI,hV,hna,e2,zbh]
   |false=>
    rw[hc2]at hV;cases hp3:zav s [62] (k+2+w.length)with
    |false=>
     rw[hp3]at hT;simp only[wbj,wdc,wbf,if_false];refine⟨⟨99,w,[],[],k,k+2+w.length+1⟩,?_⟩;simp only[zas,e99,zbp,wd8,wdb];refine zab zd8 (qa rfl) ?_;simp(maxSteps:=999999) (disch:=first|assumption|omega) only[go_sem,simprocAttr,au,hz,hg,h60,hB,hW,hI,hV,hT,hna,e2,zbh]
    |true=>
     rw[hp3]at hT;simp only[wbj,wc4,if_true];simp only[zas,e99,zbp,wd8,wdb];refine zab zd8 (qa rfl) ?_;simp(maxSteps:=999999) (disch:=first|assumption|omega) only[go_sem,simprocAttr,au,hz,hg,h60,hB,hW,hI,hV,hT,hna,e2,zbh]
 |false=>
  rw[hp1]at hB;simp only[wbf,if_false];rw[hp60];by_cases h6:c.toNat=60
  ·have h60:=eq_true h6
   have hO:=z8a (lib:=lib) s hs k (by omega);simp only[h6,decide_true,if_true];obtain⟨x,hx⟩:∃x,(if zfi.contains (zcm s (k+1))then zuu s (k+1+(zcm s (k+1)).length)else none)=x:=⟨_,rfl⟩;have hgoal:(if zfi.contains (zcm s (k+1))then(zuu s (k+1+(zcm s (k+1)).length)).map (fun q=>(⟨111,zcm s (k+1),[],q.1,k,q.2⟩:Tok))else none)=x.map (fun q=>(⟨111,zcm s (k+1),[],q.1,k,q.2⟩:Tok)):=by
    rw[<-hx];split<;>rfl
   rw[hgoal];rw[hx]at hO;cases x with
   |none=>
    obtain⟨t,hO⟩:=hO;simp only[wda];refine⟨t,?_⟩;simp only[zas]at hO⊢;refine zab zd8 (qa rfl) ?_;simp(maxSteps:=999999) (disch:=first|assumption|omega) only[go_sem,simprocAttr,au,hz,hg,h60,hB,hO,zax,zfj]
   |some q=>
    obtain⟨l,p⟩:=q;simp only[wau];simp only[zas]at hO⊢;refine zab zd8 (qa rfl) ?_;simp(maxSteps:=999999) (disch:=first|assumption|omega) only[go_sem,simprocAttr,au,hz,hg,h60,hB,hO,zax,zfj]
  ·have h60:=eq_false h6
   have hS:=yal (lib:=lib) s 60 62 k hs hkl;rw[e60,e62]at hS;simp only[h6,decide_false,wbf,if_false];cases hE:zqf s 60 62 k with
   |none=>
    rw[hE]at hS;simp only[wda];refine⟨⟨116,[],[],[],k,0⟩,?_⟩;simp only[zas,e116,zbp,wd8,wdb,n0];refine zab zd8 (qa rfl) ?_;simp(maxSteps:=999999) (disch:=first|assumption|omega) only[go_sem,simprocAttr,au,hz,hg,h60,hB,hS,zax,zfj]
   |some q=>
    obtain⟨x,p⟩:=q;rw[hE]at hS;simp only[wau];simp only[zas,e116,zbp,wd8,wdb];refine zab zd8 (qa rfl) ?_;simp(maxSteps:=999999) (disch:=first|assumption|omega) only[go_sem,simprocAttr,au,hz,hg,h60,hB,hS,zax,zfj]
theorem yc1(s:Str)(hs:s.length<=100000000):
 evW code lib 43 [.flat (.string (S s))] [] []=match z2h s with
 |some l=>some ([.slc l.length (zb4 l),.flat (.int .i64 0)],false,[],[])
 |none=>some ([.slc 0 [],.flat (.int .i64 7)],false,[],[]):=by
 have hz:(⟨#[]⟩:ByteArray)=S []:=rfl;have his:=y0o (lib:=lib) s (by unfold Sm;omega)
 have hrel:=zic (body:=evC (evW code lib) big zj9) (live:=[0,4,5]) (nb:=0) (fun(_:Unit)(q:List Tok×Nat)=>(⟨[(0,.flat (.string (S s))),(4,.slc q.1.length (zb4 q.1)),(5,.flat (.int .i64 (q.2:Nat)))],[.slot 4],[],[]⟩:St))
  (tokT s) none (fun q o st=>match q with
    |some l=>o=.exit 0/\st=⟨[(4,.slc l.length (zb4 l))],[.slot 4],[],[]⟩
    |none=>o=.ret/\∃y,st=⟨[(2,.slc 0 []),(3,.flat (.int .i64 7))],[.slot 2],[],[y]⟩) (fun q=>q.2<=s.length/\q.1.length<=q.2) (fun q=>s.length - q.2) (fun _ ⟨l,j⟩ hj=>?_) (fun _ ⟨l,j⟩ hj=>?_) (fun a c hi h=>z79 (fun k t=>z2n) a c hi h) (n:=s.length+1) (m:=big) () ([],0) ⟨wa7 _,wab _⟩ (by dsimp only;omega) (by unfold big;dsimp only;omega)
 ·unfold z2h
  cases hu:isU s with
  |false=>
   rw[hu]at his;simp only[wbf,if_false];refine zab zi6 (qa rfl) ?_;simp(maxSteps:=999999) (disch:=first|assumption|omega) only[go_sem,simprocAttr,au,hz,his]
  |true=>
   rw[hu]at his;simp only[if_true];obtain⟨o,st,hl,hq⟩:=hrel;simp only[zb4,wd8,wdb,n0]at hl;cases hE:runS (tokT s) none (s.length+1) ([],0)with
   |some l=>
    rw[hE]at hq;obtain⟨rfl,rfl⟩:=hq;refine zab zi6 (qa rfl) ?_;simp(maxSteps:=999999) (disch:=first|assumption|omega) only[go_sem,simprocAttr,au,hz,his,hl,zg8]
   |none=>
    rw[hE]at hq;obtain⟨rfl,y,rfl⟩:=hq;refine zab zi6 (qa rfl) ?_;simp(maxSteps:=999999) (disch:=first|assumption|omega) only[go_sem,simprocAttr,au,hz,his,hl,zg8]
 ·dsimp only at hj⊢
  unfold tokT;dsimp only;by_cases hlt:s.length<=j
  ·simp only[hlt,if_true]
   refine⟨.exit 0,⟨[(4,.slc l.length (zb4 l))],[.slot 4],[],[]⟩,?_,by simp,rfl,rfl⟩;simp(maxSteps:=999999) (disch:=first|assumption|omega) only[go_sem,simprocAttr,au,zi3]
  ·simp only[hlt,if_false]
   have hN:=yn0 (lib:=lib) s hs j (by omega);cases hE:zuv s j with
   |none=>
    rw[hE]at hN;obtain⟨t,hN⟩:=hN;refine⟨.ret,⟨[(2,.slc 0 []),(3,.flat (.int .i64 7))],[.slot 2],[],[(137,zas t)]⟩,?_,by simp,rfl,_,rfl⟩;simp only[zas]at hN⊢;simp(maxSteps:=999999) (disch:=first|assumption|omega) only[go_sem,simprocAttr,au,zi3,hN,zax,zfj]
   |some t=>
    rw[hE]at hN;refine⟨(),?_⟩;simp only[zas]at hN⊢;have hbd:l.length+1<=bound:=by unfold bound;omega
    have hac:zb4 l++[.flat (.int .u8 t.kind.toNat),.flat (.string (S t.name)),.flat (.string (S t.text)),.slc t.attrs.length (zbp t.attrs),.flat (.int .i64 (t.fr:Nat)),.flat (.int .i64 (t.to:Nat))]=zb4 (l++[t]):=by rw[<-zz6];rfl
    simp(maxSteps:=999999) (disch:=first|assumption|omega) only[go_sem,simprocAttr,au,zi3,hN,hbd,hac,zba,zax,zfj,zg8,wb0]
 ·simp(maxSteps:=999999) (disch:=first|assumption|omega) only[go_sem,simprocAttr,au]
def zry(t:Tok)(op:List Str):Option (List Str):=
 if t.kind.toNat=111/\zqg t.name=false then(if 32<op.length+1 then none else some (op++[t.name]))
 else if t.kind.toNat=99 then(if op.getLast?=some t.name then some op.dropLast else none)else some op
def zs3(L:List Tok)(q:List Str×Nat):(List Str×Nat) ⊕ Option (List Str):=match L[q.2]? with
 |none=>.inr (some q.1)
 |some t=>match zry t q.1 with
  |none=>.inr none
  |some op=>.inl (op,q.2+1)
def z2p(L:List Tok):Bool:=decide (runS (zs3 L) none (L.length+1) ([],0)=some [])
theorem yhp{t:Tok}{op op':List Str}(h:op.length<=32)(he:zry t op=some op'):op'.length<=32:=by
 unfold zry at he;split at he
 ·split at he
  ·cases he
  ·cases he;simp only[wb0,waf,wdb];omega
 ·split at he
  ·split at he
   ·cases he;rw[List.length_dropLast];omega
   ·cases he
  ·cases he;exact h
theorem yn1(L:List Tok):∀a b:List Str×Nat,(a.2<=L.length/\a.1.length<=32)->zs3 L a=.inl b->(b.2<=L.length/\b.1.length<=32)/\L.length - b.2<L.length - a.2:=by
 intro⟨op,k⟩ b ⟨h1,h2⟩ h;unfold zs3 at h;dsimp only at h h1 h2;split at h
 ·cases h
 ·rename_i t ht
  have:=(qg ht).1;split at h
  ·cases h
  ·rename_i op' hop
   have h3:=yhp h2 hop;cases h;dsimp only;omega
theorem z5m{l:List Tok}{k:Nat}{x:Tok}(h:l[k]?=some x):(zb4 l).drop (k* 6)=zas x++zb4 (l.drop (k+1)):=by
 induction l generalizing k with
 |nil=>cases h
 |cons a l ih=>
  show(zas a++zb4 l).drop _=_;cases k with
  |zero=>
   simp only[wbl,war]at h;subst h;simp only[Nat.zero_mul,wc8,wbx,wah]
  |succ k=>
   rw[wbk]at h;have e:(k+1)* 6=6+k* 6:=by omega
   rw[e,<-wbd];show(zb4 l).drop _=_;rw[ih h];rfl
theorem yhq{op:List Str}{n:Nat}(h:op.length=n+1):∃x,op[n]?=some x/\op.getLast?=some x/\op.dropLast=op.take n/\(zaq op).drop n=[.flat (.string (S x))]:=by
 have hlt:n<op.length:=by omega
 refine⟨op[n],qe hlt,?_,?_,?_⟩
 ·rw[List.getLast?_eq_getElem?,h,Nat.add_sub_cancel,qe hlt]
 ·rw[List.dropLast_eq_take,h,Nat.add_sub_cancel]
 ·rw[zaq,<-wd6,wcm hlt,wc0 (by omega)];rfl
theorem yc2(L:List Tok)(hL:L.length<=1000000000):evW code lib 45 [.slc L.length (zb4 L)] [] []=some ([.flat (.bool (z2p L))],false,[],[]):=by
 have hrel:=zic (body:=evC (evW code lib) big zkd) (live:=[0,3,4]) (nb:=0) (fun(o:Bool)(q:List Str×Nat)=>(⟨[(0,.slc L.length (zb4 L)),(3,.slc q.1.length (zaq q.1)),(4,.flat (.int .i64 (q.2:Nat)))],if o then[.slot 3]else[],[],[]⟩:St))
  (zs3 L) none (fun q o st=>match q with
    |some op=>o=.exit 0/\∃b:Bool,st=⟨[(3,.slc op.length (zaq op))],if b then[.slot 3]else[],[],[]⟩
    |none=>o=.ret/\st=⟨[(2,.flat (.bool false))],[],[],[]⟩) (fun q=>q.2<=L.length/\q.1.length<=32) (fun q=>L.length - q.2) (fun o ⟨op,k⟩ hi=>?_) (fun o ⟨op,k⟩ hi=>?_) (yn1 L) (n:=L.length+1) (m:=big) true ([],0) ⟨wa7 _,by simp⟩ (by dsimp only;omega) (by unfold big;dsimp only;omega)
 ·obtain⟨o,st,hl,hq⟩:=hrel
  unfold z2p;simp only[zaq,wc7,wdb,n0,if_true]at hl;cases hE:runS (zs3 L) none (L.length+1) ([],0)with
  |none=>
   rw[hE]at hq;obtain⟨rfl,rfl⟩:=hq;refine zab zno (qa rfl) ?_;simp(maxSteps:=999999) (disch:=first|assumption|omega) only[go_sem,simprocAttr,au,hl]
  |some op=>
   rw[hE]at hq;obtain⟨rfl,b,rfl⟩:=hq;have h0:(op.length=0)=(op=[]):=propext List.length_eq_zero_iff;refine zab zno (qa rfl) ?_;by_cases hop:op=[]
   ·subst hop
    cases b
    ·simp(maxSteps:=999999) (disch:=first|assumption|omega) only[go_sem,simprocAttr,au,hl]
    ·simp(maxSteps:=999999) (disch:=first|assumption|omega) only[go_sem,simprocAttr,au,hl]
   ·have h1:(op=[])=False:=eq_false hop
    have h2:op.length≠0:=fun h=>hop (qz h)
    cases b
    ·simp(maxSteps:=999999) (disch:=first|assumption|omega) only[go_sem,simprocAttr,au,hl,h1]
    ·simp(maxSteps:=999999) (disch:=first|assumption|omega) only[go_sem,simprocAttr,au,hl,h1]
 ·dsimp only at hi
  dsimp only;unfold zs3;dsimp only;have e0:(if o=true then[Loc.slot 3]else[])=[Loc.slot 3]\/(if o=true then[Loc.slot 3]else[])=([]:List Loc):=by cases o<;>simp
  by_cases hk:k<L.length
  ·have hc:L[k]?=some L[k]:=qe hk
   obtain⟨t,ht⟩:∃t,L[k]=t:=⟨_,rfl⟩;rw[ht]at hc;have hsd:=z5m hc;simp only[zas,wai,wa5]at hsd;have hv:=yak (lib:=lib) t.name;have hbd:op.length<=bound:=by unfold bound;omega
   have hbd1:op.length+1<=bound:=by unfold bound;omega
   have hsa:zaq op++[PV.flat (.string (S t.name))]=zaq (op++[t.name]):=by rw[<-zk0];rfl
   simp only[hc];unfold zry;by_cases h1:t.kind.toNat=111
   ·have h1':=eq_true h1
    have h2':(t.kind.toNat=99)=False:=eq_false (by omega);cases hvo:zqg t.name with
    |true=>
     rw[hvo]at hv;simp only[h1,h2',wea,and_false,if_false];refine⟨o,?_⟩;rcases e0 with e0|e0<;>rw[e0]
     ·simp(maxSteps:=999999) (disch:=first|assumption|omega) only[go_sem,simprocAttr,au,za1,hsd,h1',h2',hv,zba,zam,zbf]
     ·simp(maxSteps:=999999) (disch:=first|assumption|omega) only[go_sem,simprocAttr,au,za1,hsd,h1',h2',hv,zba,zam,zbf]
    |false=>
     rw[hvo]at hv;simp only[h1,and_self,if_true];by_cases h32:32<op.length+1
     ·simp only[h32,if_true]
      refine⟨.ret,⟨[(2,.flat (.bool false))],[],[],[]⟩,?_,by simp,rfl,rfl⟩;rcases e0 with e0|e0<;>rw[e0]
      ·simp(maxSteps:=999999) (disch:=first|assumption|omega) only[go_sem,simprocAttr,au,za1,hsd,h1',h2',hv,hbd,hbd1,hsa,zba,zam,zbf,wb0,zwa]
      ·simp(maxSteps:=999999) (disch:=first|assumption|omega) only[go_sem,simprocAttr,au,za1,hsd,h1',h2',hv,hbd,hbd1,hsa,zba,zam,zbf,wb0,zwa]
     ·simp only[h32,if_false]
      refine⟨true,?_⟩;rcases e0 with e0|e0<;>rw[e0]
      ·simp(maxSteps:=999999) (disch:=first|assumption|omega) only[go_sem,simprocAttr,au,za1,hsd,h1',h2',hv,hbd,hbd1,hsa,zba,zam,zbf,wb0,zwa]
      ·simp(maxSteps:=999999) (disch:=first|assumption|omega) only[go_sem,simprocAttr,au,za1,hsd,h1',h2',hv,hbd,hbd1,hsa,zba,zam,zbf,wb0,zwa]
   ·have h1':=eq_false h1
    by_cases h2:t.kind.toNat=99
    ·have h2':=eq_true h2
     simp only[h1,h2,false_and,if_false,if_true];by_cases hop:op=[]
     ·subst hop
      simp only[List.getLast?_nil,reduceCtorEq,if_false];refine⟨.ret,⟨[(2,.flat (.bool false))],[],[],[]⟩,?_,by simp,rfl,rfl⟩;rcases e0 with e0|e0<;>rw[e0]
      ·simp(maxSteps:=999999) (disch:=first|assumption|omega) only[go_sem,simprocAttr,au,za1,hsd,h1',h2',zba,zam,zbf]
      ·simp(maxSteps:=999999) (disch:=first|assumption|omega) only[go_sem,simprocAttr,au,za1,hsd,h1',h2',zba,zam,zbf]
     ·obtain⟨n,hn⟩:∃n,op.length=n+1:=⟨op.length - 1,by have:op.length≠0:=fun h=>hop (qz h);omega⟩
      obtain⟨x,hx1,hx2,hx3,hx4⟩:=yhq hn;have en:(op.length:Int) - 1=(n:Nat):=by omega
      have w1:IntKind.i64.wrap ((op.length:Int) - 1)=(n:Nat):=by rw[wrap64 (by omega)];omega
      rw[hx2,hx3];by_cases hxn:x=t.name
      ·have hx':=eq_true hxn
       simp only[war,hx',if_true];refine⟨false,?_⟩;have hst:(zaq op).take n=zaq (op.take n):=by simp only[zaq,List.map_take]
       have hln:(op.take n).length=n:=by rw[wa2];omega
       simp only[hln,wbf,if_false];rcases e0 with e0|e0<;>rw[e0]
       ·simp(maxSteps:=999999) (disch:=first|assumption|omega) only[go_sem,simprocAttr,au,za1,hsd,h1',h2',hx4,hx',w1,hst,zba,zam,zbf,wc2]
       ·simp(maxSteps:=999999) (disch:=first|assumption|omega) only[go_sem,simprocAttr,au,za1,hsd,h1',h2',hx4,hx',w1,hst,zba,zam,zbf,wc2]
      ·have hx':=eq_false hxn
       have hx'':(some x=some t.name)=False:=eq_false (fun h=>hxn (by simpa using h));simp only[hx',war,if_false];refine⟨.ret,⟨[(2,.flat (.bool false))],[],[],[]⟩,?_,by simp,rfl,rfl⟩;rcases e0 with e0|e0<;>rw[e0]
       ·simp(maxSteps:=999999) (disch:=first|assumption|omega) only[go_sem,simprocAttr,au,za1,hsd,h1',h2',hx4,hx',w1,zba,zam,zbf]
       ·simp(maxSteps:=999999) (disch:=first|assumption|omega) only[go_sem,simprocAttr,au,za1,hsd,h1',h2',hx4,hx',w1,zba,zam,zbf]
    ·have h2':=eq_false h2
     simp only[h1,h2,false_and,if_false];refine⟨o,?_⟩;rcases e0 with e0|e0<;>rw[e0]
     ·simp(maxSteps:=999999) (disch:=first|assumption|omega) only[go_sem,simprocAttr,au,za1,hsd,h1',h2',zba,zam,zbf]
     ·simp(maxSteps:=999999) (disch:=first|assumption|omega) only[go_sem,simprocAttr,au,za1,hsd,h1',h2',zba,zam,zbf]
  ·have hc:L[k]?=none:=wb8 (by omega)
   simp only[hc];refine⟨.exit 0,⟨[(3,.slc op.length (zaq op))],if o then[.slot 3]else[],[],[]⟩,?_,by simp,rfl,o,rfl⟩;rcases e0 with e0|e0<;>rw[e0]
   ·simp(maxSteps:=999999) (disch:=first|assumption|omega) only[go_sem,simprocAttr,au,za1,zba]
   ·simp(maxSteps:=999999) (disch:=first|assumption|omega) only[go_sem,simprocAttr,au,za1,zba]
 ·cases o<;>dsimp only
  ·simp(maxSteps:=999999) (disch:=first|assumption|omega) only[go_sem,simprocAttr,au]
  ·simp(maxSteps:=999999) (disch:=first|assumption|omega) only[go_sem,simprocAttr,au]
def zd4:Str->Str->Bool
 |[],_=>false
 |x::l,w=>w.isPrefixOf (x::l)||zd4 l w
theorem yhr{s w:Str}{r:Out×St}{fin:Unit->Out×St}:∀(t:Str)(k:Nat),s.drop k=t->k+t.length=s.length->zi8 (fun(_:Unit) k(_:UInt8)=>if zav s w k then .inr r else .inl ()) fin () k t=if zd4 t w then r else fin ()
 |[],k,_,_=>rfl
 |x::t,k,h,hl=>by
  have hk:k<=s.length:=by omega
  have ht:s.drop (k+1)=t:=znp h;rw[zi8,zd4,zc5 hk,h];cases hp:w.isPrefixOf (x::t)with
  |true=>simp only[if_true,wdo]
  |false=>
   simp only[wbf,if_false,wcx];exact yhr t (k+1) ht (by simp only[waf]at hl;omega)
theorem zs4(s w:Str)(hs:s.length<=100000000)(hw:w.length<=100000000):evW code lib 36 [.flat (.string (S s)),.flat (.string (S w))] [] []=some ([.flat (.bool (zd4 s w))],false,[],[]):=by
 have hloop:=zl5 (body:=evC (evW code lib) big zj7) (live:=[0,1,5]) (nb:=0) (fun(_:Unit) k=>⟨[(0,.flat (.string (S s))),(1,.flat (.string (S w))),(5,.flat (.int .i64 (k:Nat)))],[],[],[]⟩) s (fun _ _=>True)
  (fun _ k(_:UInt8)=>if zav s w k then .inr (.ret,⟨[(4,.flat (.bool true))],[],[],[]⟩)else .inl ()) (fun _=>(.exit 0,⟨[],[],[],[]⟩)) (fun _ k x _ hk hc hd=>?_) (fun _ _=>by simp only[go_sem,simprocAttr]) (fun _ _ _ _ _ _ _ _=>trivial) (fun _ _ x r h=>by split at h<;>simp at h;rw[<-h];simp) (fun _ _=>?_) (fun _=>by simp) () trivial (by unfold big;omega)
 ·rw[yhr s 0 rfl (by omega)]at hloop
  simp only[n0]at hloop;refine zab zw3 (qa rfl) ?_;cases hst:zd4 s w with
  |true=>
   simp only[hst,if_true]at hloop;simp(maxSteps:=999999) (disch:=first|assumption|omega) only[go_sem,simprocAttr,au,hloop]
  |false=>
   simp only[hst,wbf,if_false]at hloop;simp(maxSteps:=999999) (disch:=first|assumption|omega) only[go_sem,simprocAttr,au,hloop]
 ·have hB:=ze5 (lib:=lib) s w k (by omega) (by omega) (by omega)
  cases hb:zav s w k with
  |true=>
   rw[hb]at hB;simp only[if_true];simp(maxSteps:=999999) (disch:=first|assumption|omega) only[go_sem,simprocAttr,au,zi2,hB]
  |false=>
   rw[hb]at hB;simp only[wbf,if_false];simp(maxSteps:=999999) (disch:=first|assumption|omega) only[go_sem,simprocAttr,au,zi2,hB]
 ·simp(maxSteps:=999999) (disch:=first|assumption|omega) only[go_sem,simprocAttr,au,zi2]
def badS:Str:=[60,62,40,41,91,93,44,59,58,34,92]
def okA(c:UInt8):Bool:=!(decide (c.toNat<=32)||(decide (126<c.toNat)||badS.contains c))
theorem z2q(c:UInt8):∀s:Str,zd4 s [c]=s.contains c
 |[]=>rfl
 |x::l=>by
  rw[zd4,List.contains_cons,z2q c l];congr 1;simp only[List.isPrefixOf,wbi]
def zhl(c:UInt8):Str->Option Nat
 |[]=>none
 |x::l=>match zhl c l with
  |some i=>some (i+1)
  |none=>if x=c then some 0 else none
def yn2(s:Str):Bool:=s.all okA&&(decide (3<=s.length)&&(decide (s.length<=60)&&((match at1 64 s with|none=>false|some i=>decide (0<i)&&(decide (i+1<s.length)&&decide (zhl 64 s=some i)))&& !zd4 s [61,63])))
def zuw(s:Str):Bool:=!(decide (s.length<3)||(decide (60<s.length)||(decide (s[0]?=some 64)||(decide (s[s.length - 1]?=some 64)||zd4 s [61,63]))))&&(s.all okA&&decide (s.count 64=1))
def zqh(lib:Callee):Prop:=∀(s:Str)(c:UInt8),s.length<=1000000000->lib 34 [.flat (.string (S s)),.flat (.int .u8 c.toNat)] [] []=some ([.flat (.int .i64 (match zhl c s with|some i=>(i:Int)|none=>-1))],false,[],[])
def zxk(lib:Callee):Prop:=∀s:Str,s.length<=1000000000->lib 35 [.flat (.string (S s)),.flat (.string (S [61,63]))] [] []=some ([.flat (.bool (zd4 s [61,63]))],false,[],[])
theorem yhs(HI:zf2 lib)(HL:zqh lib)(HC:zxk lib)(s:Str)(hs:s.length<=100000000):evW code lib 13 [.flat (.string (S s))] [] []=some ([.flat (.bool (yn2 s))],false,[],[]):=by
 have hloop:=zl5 (body:=evC (evW code lib) big zg3) (live:=[0,6,7]) (nb:=0) (fun(_:Unit) k=>⟨[(0,.flat (.string (S s))),(6,.flat (.int .i64 (s.length:Nat))),(7,.flat (.int .i64 (k:Nat)))],[],[],[]⟩) s (fun _ _=>True)
  (fun _ k x=>if okA x then .inl ()else .inr (.ret,⟨[(2,.flat (.bool false))],[],[],[]⟩)) (fun _=>(.exit 0,⟨[(0,.flat (.string (S s)))],[],[],[]⟩)) (fun _ k c _ hk hc hd=>?_) (fun _ _=>by simp only[go_sem,simprocAttr]) (fun _ _ _ _ _ _ _ _=>trivial) (fun _ _ x r h=>by split at h<;>simp at h;rw[<-h];simp) (fun _ _=>?_) (fun _=>by simp) () trivial (by unfold big;omega)
 ·rw[z18]at hloop
  simp only[n0]at hloop;have hx:=zzy HI s 64 (by omega);have hla:evW code lib 34 [.flat (.string (S s)),.flat (.int .u8 ((64:UInt8).toNat:Nat))] [] []=some ([.flat (.int .i64 (match zhl 64 s with|some i=>(i:Int)|none=>-1))],false,[],[]):=zde (by decide) (by kernel_rfl) (HL s 64 (by omega));have hco:evW code lib 35 [.flat (.string (S s)),.flat (.string (S [61,63]))] [] []=some ([.flat (.bool (zd4 s [61,63]))],false,[],[]):=zde (by decide) (by kernel_rfl) (HC s (by omega));have e64:((UInt8.toNat 64:Nat):Int)=64:=rfl;rw[e64]at hx hla;unfold yn2;refine zab zrn (qa rfl) ?_;cases ha:s.all okA with
  |false=>
   simp only[ha,wbf,if_false]at hloop;simp only[wdd];simp(maxSteps:=999999) (disch:=first|assumption|omega) only[go_sem,simprocAttr,au,hloop]
  |true=>
   simp only[ha,if_true]at hloop;simp only[wbh];rcases wd3 (3<=s.length)with h3|h3
   ·rcases wd3 (s.length<=60)with h60|h60
    ·simp only[h3,h60,decide_true,wbh]
     cases hat:at1 64 s with
     |none=>
      simp only[hat]at hx;simp only[wdd];simp(maxSteps:=999999) (disch:=first|assumption|omega) only[go_sem,simprocAttr,au,hloop,hx]
     |some i=>
      simp only[hat]at hx;dsimp only;rcases wd3 (0<i)with h0|h0
      ·rcases wd3 (i+1<s.length)with h1|h1
       ·simp only[h0,h1,decide_true,wbh]
        cases hlt:zhl 64 s with
        |none=>
         simp only[hlt]at hla;simp only[reduceCtorEq,decide_false,wdd];simp(maxSteps:=999999) (disch:=first|assumption|omega) only[go_sem,simprocAttr,au,hloop,hx,hla]
        |some j=>
         simp only[hlt]at hla;by_cases hij:j=i
         ·subst hij
          simp only[decide_true,wbh];cases hst:zd4 s [61,63]with
          |true=>
           rw[hst]at hco;simp(maxSteps:=999999) (disch:=first|assumption|omega) only[go_sem,simprocAttr,au,hloop,hx,hla,hco]
          |false=>
           rw[hst]at hco;simp(maxSteps:=999999) (disch:=first|assumption|omega) only[go_sem,simprocAttr,au,hloop,hx,hla,hco]
         ·have hij':(some j=some i)=False:=eq_false (fun h=>hij (by simpa using h))
          have hij2:(i=j)=False:=eq_false (fun h=>hij h.symm);simp only[hij',decide_false,wdd];simp(maxSteps:=999999) (disch:=first|assumption|omega) only[go_sem,simprocAttr,au,hloop,hx,hla,hij2]
       ·simp only[h0,h1,decide_true,decide_false,wbh,wdd]
        simp(maxSteps:=999999) (disch:=first|assumption|omega) only[go_sem,simprocAttr,au,hloop,hx]
      ·simp only[h0,decide_false,wdd]
       simp(maxSteps:=999999) (disch:=first|assumption|omega) only[go_sem,simprocAttr,au,hloop,hx]
    ·simp only[h3,h60,decide_true,decide_false,wbh,wdd]
     simp(maxSteps:=999999) (disch:=first|assumption|omega) only[go_sem,simprocAttr,au,hloop,hx]
   ·simp only[h3,decide_false,wdd]
    simp(maxSteps:=999999) (disch:=first|assumption|omega) only[go_sem,simprocAttr,au,hloop,hx]
 ·have hb:=zzy HI badS c (by decide)
  have hbs:badS=[60,62,40,41,91,93,44,59,58,34,92]:=rfl;have hin:=z40 c badS;unfold okA;obtain⟨n,hn⟩:∃n,c.toNat=n:=⟨_,rfl⟩;cases hat:at1 c badS with
  |none=>
   rw[hat]at hin;simp only[hat]at hb;rw[<-hin];rw[hbs,hn]at hb;rw[hn];simp only[Option.isSome_none,wc3];rcases wd3 (n<=32)with a1|a1<;>rcases wd3 (126<n)with a2|a2
   all_goals first|(exfalso;omega)|skip
   all_goals
    simp(maxSteps:=999999) (disch:=first|assumption|omega) only[go_sem,simprocAttr,au,zgc,hc,hn,hb]
  |some i=>
   rw[hat]at hin;simp only[hat]at hb;rw[<-hin];rw[hbs,hn]at hb;rw[hn];simp only[Option.isSome_none,wc3];rcases wd3 (n<=32)with a1|a1<;>rcases wd3 (126<n)with a2|a2
   all_goals first|(exfalso;omega)|skip
   all_goals
    simp(maxSteps:=999999) (disch:=first|assumption|omega) only[go_sem,simprocAttr,au,zgc,hc,hn,hb]
 ·simp(maxSteps:=999999) (disch:=first|assumption|omega) only[go_sem,simprocAttr,au,zgc]
theorem yam{r:Out×St}{fin:Nat->Out×St}:∀(L:Str)(n k:Nat),zi8 (fun(n:Nat) _(x:UInt8)=>if okA x then .inl (if x.toNat=64 then n+1 else n)else .inr r) fin n k L=if L.all okA then fin (n+L.count 64)else r
 |[],n,k=>rfl
 |x::t,n,k=>by
  rw[zi8,wcg,List.count_cons];cases hp:okA x with
  |true=>
   simp only[if_true,wbh];rw[yam t _ _];by_cases h:x.toNat=64
   ·have h2:x=64:=wdv.1 h
    subst h2;simp only[h,if_true,BEq.rfl,wam,Nat.add_comm 1]
   ·have h2:(x==64)=false:=by simpa using fun e=>h (by rw[e];rfl)
    simp only[h,if_false,h2,wbf,wa6]
  |false=>simp only[wbf,if_false,wdd]
theorem yan(s:Str)(hs:s.length<=100000000):evW code lib 14 [.flat (.string (S s))] [] []=some ([.flat (.bool (zuw s))],false,[],[]):=by
 have hloop:=zl5 (body:=evC (evW code lib) big zi1) (live:=[0,3,4]) (nb:=0) (fun(n:Nat) k=>⟨[(0,.flat (.string (S s))),(3,.flat (.int .i64 (n:Nat))),(4,.flat (.int .i64 (k:Nat)))],[],[],[]⟩) s (fun n k=>n<=k)
  (fun n k x=>if okA x then .inl (if x.toNat=64 then n+1 else n)else .inr (.ret,⟨[(2,.flat (.bool false))],[],[],[]⟩)) (fun n=>(.exit 0,⟨[(3,.flat (.int .i64 (n:Nat)))],[],[],[]⟩)) (fun n k c hi hk hc hd=>?_) (fun _ _=>by simp only[go_sem,simprocAttr]) (fun n k x a' hi _ _ h=>by
    split at h
    ·cases h;split<;>omega
    ·cases h) (fun _ _ x r h=>by split at h<;>simp at h;rw[<-h];simp) (fun n hn=>?_) (fun _=>by simp) 0 (wab _) (by unfold big;omega)
 ·rw[yam,wbx]at hloop
  simp only[n0]at hloop;have hco:=zs4 (lib:=lib) s [61,63] hs (by decide);unfold zuw;refine zab zus (qa rfl) ?_;rcases wd3 (s.length<3)with h3|h3
  ·simp only[h3,decide_true,wdo,wbe,wdd]
   simp(maxSteps:=999999) (disch:=first|assumption|omega) only[go_sem,simprocAttr,au]
  rcases wd3 (60<s.length)with h60|h60
  ·simp only[h60,decide_true,wdo,wdx,wbe,wdd]
   simp(maxSteps:=999999) (disch:=first|assumption|omega) only[go_sem,simprocAttr,au]
  simp only[h3,h60,decide_false,wcx];have hg0:s[0]?=some s[0]:=qe (by omega);have hg1:s[s.length - 1]?=some (s[s.length - 1]'(by omega)):=qe (by omega);obtain⟨a,ha⟩:∃a,s[0]=a:=⟨_,rfl⟩;obtain⟨z,hzz⟩:∃z,s[s.length - 1]'(by omega)=z:=⟨_,rfl⟩;rw[ha]at hg0;rw[hzz]at hg1;rw[hg0,hg1];have w1:IntKind.i64.wrap ((s.length:Int) - 1)=((s.length - 1:Nat):Int):=by rw[wrap64 (by omega)];omega
  have eqa:(some a=some (64:UInt8))=(a.toNat=64):=by
   apply propext;rw[war];exact⟨fun h=>by rw[h];rfl,fun h=>wdv.1 h⟩
  have eqz:(some z=some (64:UInt8))=(z.toNat=64):=by
   apply propext;rw[war];exact⟨fun h=>by rw[h];rfl,fun h=>wdv.1 h⟩
  simp only[eqa,eqz];have hcl:s.count 64<=s.length:=List.count_le_length;rcases wd3 (a.toNat=64)with h1|h1
  ·have h1':=eq_true h1
   simp only[h1,decide_true,wdo,wbe,wdd];simp(maxSteps:=999999) (disch:=first|assumption|omega) only[go_sem,simprocAttr,au,hg0,h1']
  have h1':=eq_false h1;rcases wd3 (z.toNat=64)with h2|h2
  ·have h2':=eq_true h2
   simp only[h1,h2,decide_true,decide_false,wcx,wdo,wbe,wdd];simp(maxSteps:=999999) (disch:=first|assumption|omega) only[go_sem,simprocAttr,au,hg0,hg1,w1,h1',h2']
  have h2':=eq_false h2;simp only[h1,h2,decide_false,wcx];cases hst:zd4 s [61,63]with
  |true=>
   rw[hst]at hco;simp only[wbe,wdd];simp(maxSteps:=999999) (disch:=first|assumption|omega) only[go_sem,simprocAttr,au,hg0,hg1,w1,h1',h2',hco]
  |false=>
   rw[hst]at hco;simp only[wbj,wbh];cases ha:s.all okA with
   |false=>
    simp only[ha,wbf,if_false]at hloop;simp only[wdd];simp(maxSteps:=999999) (disch:=first|assumption|omega) only[go_sem,simprocAttr,au,hg0,hg1,w1,h1',h2',hco,hloop]
   |true=>
    simp only[ha,if_true]at hloop;simp only[wbh];rcases wd3 (s.count 64=1)with hcn|hcn
    ·simp only[hcn,decide_true]at hloop⊢
     simp(maxSteps:=999999) (disch:=first|assumption|omega) only[go_sem,simprocAttr,au,hg0,hg1,w1,h1',h2',hco,hloop]
    ·simp only[hcn,decide_false]
     simp(maxSteps:=999999) (disch:=first|assumption|omega) only[go_sem,simprocAttr,au,hg0,hg1,w1,h1',h2',hco,hloop]
 ·have hb:=zs4 (lib:=lib) badS [c] (by decide) (by simp)
  have hbs:badS=[60,62,40,41,91,93,44,59,58,34,92]:=rfl;rw[z2q]at hb;have hsl:(s.take (k+1)).drop k=[c]:=by
   rw[wdg,hd,wbs];rfl
  unfold okA;obtain⟨v,hv⟩:∃v,badS.contains c=v:=⟨_,rfl⟩;rw[hv]at hb⊢;rw[hbs]at hb;obtain⟨m,hm⟩:∃m,c.toNat=m:=⟨_,rfl⟩;rw[hm];rcases wd3 (m<=32)with a1|a1<;>rcases wd3 (126<m)with a2|a2<;>rcases wd3 (m=64)with a3|a3<;>cases v
  all_goals first|(exfalso;omega)|skip
  all_goals
   first|have b3:=eq_false a3|have b3:=eq_true a3
   simp(maxSteps:=999999) (disch:=first|assumption|omega) only[go_sem,simprocAttr,au,zmp,hc,hm,hb,hsl,b3]
 ·simp(maxSteps:=999999) (disch:=first|assumption|omega) only[go_sem,simprocAttr,au,zmp]
theorem z5n{c:UInt8}:∀{s:Str}{i:Nat},at1 c s=some i->∃p t,s=p++c::t/\c∉p/\p.length=i
 |[],i,h=>by cases h
 |x::l,i,h=>by
  unfold at1 at h;split at h
  ·rename_i e
   cases h;exact⟨[],l,by rw[e];rfl,by simp,rfl⟩
  ·rename_i e
   obtain⟨j,h1,rfl⟩:=qm h;obtain⟨p,t,h2,h3,h4⟩:=z5n h1;exact⟨x::p,t,by rw[h2];rfl,by simp only[waq,not_or];exact⟨fun e2=>e e2.symm,h3⟩,by rw[waf,h4]⟩
theorem yn3{c:UInt8}{s:Str}(h:at1 c s=none):c∉s:=by
 have:=z40 c s;rw[h]at this;intro hm;rw[List.contains_iff_mem.2 hm]at this;cases this
theorem zg9{c:UInt8}:∀{s:Str},c∉s->zhl c s=none
 |[],_=>rfl
 |x::l,h=>by
  simp only[waq,not_or]at h;simp only[zhl,zg9 h.2];rw[if_neg (fun e=>h.1 e.symm)]
theorem zon{c:UInt8}:∀{s:Str},c∈s->∃i,zhl c s=some i
 |[],h=>by cases h
 |x::l,h=>by
  by_cases hm:c∈l
  ·obtain⟨i,hi⟩:=zon hm
   exact⟨i+1,by simp only[zhl,hi]⟩
  ·have e:x=c:=by
    rcases waq.1 h with e|e
    ·exact e.symm
    ·exact absurd e hm
   exact⟨0,by simp only[zhl,zg9 hm,e,if_true]⟩
theorem zrz{c:UInt8}{t:Str}{i:Nat}(h:zhl c t=some i):∀p:Str,zhl c (p++t)=some (p.length+i)
 |[]=>by rw[wa5,h,wdb,wbx]
 |x::p=>by
  have:=zrz h p;simp only[wai,zhl,this,waf];congr 1;omega
theorem addr_eq(s:Str):yn2 s=zuw s:=by
 unfold yn2 zuw;by_cases h3:s.length<3
 ·have:¬3<=s.length:=by omega
  simp only[h3,this,decide_false,decide_true,wdd,wdc,wdo,wbe]
 by_cases h60:60<s.length
 ·have:¬s.length<=60:=by omega
  simp only[h60,this,decide_false,decide_true,wdd,wdc,wdo,wdx,wbe]
 have h3':3<=s.length:=by omega
 have h60':s.length<=60:=by omega
 simp only[h3,h60,h3',h60',decide_false,decide_true,wbh,wcx];cases ha:s.all okA with
 |false=>simp only[wdd,wdc]
 |true=>
  simp only[wbh];cases hat:at1 64 s with
  |none=>
   have hm:=yn3 hat;have hc:s.count 64=0:=List.count_eq_zero.2 hm;simp only[hc,Nat.zero_ne_one,decide_false,wdc,wdd]
  |some i=>
   obtain⟨p,t,rfl,hp,rfl⟩:=z5n hat;have hcnt:(p++64::t).count 64=1+t.count 64:=by
    rw[List.count_append,List.count_cons_self,List.count_eq_zero.2 hp];omega
   have hlen:(p++64::t).length=p.length+1+t.length:=by simp only[wb0,waf];omega
   rw[hcnt,hlen];by_cases hm:(64:UInt8)∈t
   ·obtain⟨j,hj⟩:=zon hm
    have hl:zhl 64 (p++64::t)=some (p.length+(j+1)):=zrz (by simp only[zhl,hj]) p;have hc:1<=t.count 64:=List.count_pos_iff.2 hm;have e1:(1+t.count 64=1)=False:=eq_false (by omega);have e2:(p.length+(j+1)=p.length)=False:=eq_false (by omega);simp only[hl,war,e1,e2,decide_false,wdc,wdd]
   ·have hl:zhl 64 (p++64::t)=some (p.length+0):=zrz (by simp only[zhl,zg9 hm,if_true]) p
    have hc:t.count 64=0:=List.count_eq_zero.2 hm;rw[hl,hc];simp only[wa6,decide_true,wbi];have hh:(((p++64::t)[0]?=some 64):Prop)=(p.length=0):=by
     apply propext;cases p with
     |nil=>simp
     |cons x p=>
      simp only[wai,wbl,war,waf,Nat.succ_ne_zero,iff_false];intro e;subst e;exact hp wcy
    have hz:(((p++64::t)[p.length+1+t.length - 1]?=some 64):Prop)=(t.length=0):=by
     apply propext;rw[wbr (by omega)];cases ht:t with
     |nil=>simp
     |cons y t'=>
      have e:p.length+1+(y::t').length - 1 - p.length=t'.length+1:=by simp only[waf];omega
      rw[e,wbk];have hlt:t'.length<(y::t').length:=by simp
      rw[qe hlt];simp only[war,waf,Nat.succ_ne_zero,iff_false];intro e2;apply hm;rw[ht,<-e2];exact wd5 hlt
    simp only[hh,hz];by_cases hp0:p.length=0
    ·have:¬0<p.length:=by omega
     simp only[hp0,this,decide_true,decide_false,wdd,wdo,wbe];simp
    ·by_cases ht0:t.length=0
     ·have:¬p.length+1<p.length+1+t.length:=by omega
      simp only[ht0,this,decide_true,decide_false,wdc,wdd,wdo,wdx,wbe];simp
     ·have e1:0<p.length:=by omega
      have e2:p.length+1<p.length+1+t.length:=by omega
      simp only[hp0,ht0,e1,e2,decide_true,decide_false,wbh,wcx,wbi]
def zqi(lib:Callee):Prop:=∀L:List Tok,L.length<=1000000000->lib 57 [.slc L.length (zb4 L)] [] []=some ([.flat (.bool (z2p L))],false,[],[])
def yht(s:Str):Bool:=match z2h s with
 |some l=>z2p l
 |none=>false
theorem z5o{s:Str}{l:List Tok}(h:z2h s=some l):l.length<=s.length:=by
 unfold z2h at h;split at h
 ·have:=zl3 (step:=tokT s) (d:=none) (I:=fun q=>q.2<=s.length/\q.1.length<=q.2) (μ:=fun q=>s.length - q.2) (Q:=fun r=>∀l,r=some l->l.length<=s.length) (fun a hi=>by
   cases hs:tokT s a with
   |inl b=>exact z79 (fun k t=>z2n) a b hi hs
   |inr r=>
    intro l hl;subst hl;unfold tokT at hs;split at hs
    ·cases hs;have:=hi.1;have:=hi.2;omega
    ·split at hs<;>cases hs) (s.length+1) ([],0) ⟨wa7 _,wab _⟩ (by dsimp only;omega)
  exact this l h
 ·cases h
theorem yu2(HP:zcz lib)(HB:zgp lib)(HN:zqi lib)(s:Str)(hs:s.length<=100000000):evW code lib 33 [.flat (.string (S s))] [] []=some ([.flat (.bool (yht s))],false,[],[]):=by
 have ht:=yhk HP HB s hs;unfold yht;refine zab zww (qa rfl) ?_;cases hE:z2h s with
 |none=>
  rw[hE]at ht;simp(maxSteps:=999999) (disch:=first|assumption|omega) only[go_sem,simprocAttr,au,ht]
 |some l=>
  rw[hE]at ht;have hn:evW code lib 57 [.slc l.length (zb4 l)] [] []=some ([.flat (.bool (z2p l))],false,[],[]):=zde (by decide) (by kernel_rfl) (HN l (by have:=z5o hE;omega));simp(maxSteps:=999999) (disch:=first|assumption|omega) only[go_sem,simprocAttr,au,ht,hn,zxj]
structure Mail where
 fr:Str
 to:Str
 su:Str
 te:Str
 ht:Str
def zie(m:Mail):List PV:=[.flat (.string (S m.fr)),.flat (.string (S m.to)),.flat (.string (S m.su)),.flat (.string (S m.te)),.flat (.string (S m.ht))]
def Mail.small(m:Mail):Prop:=m.fr.length<=10000/\m.to.length<=10000/\m.su.length<=10000/\m.te.length<=10000/\m.ht.length<=10000
def zja(m:Mail):Nat:=
 if(zuw m.fr&&zuw m.to)=false then 1
 else if zgu m.su=m.su/\zgu m.te=m.te/\zgu m.ht=m.ht/\m.su.contains 10=false/\yht m.ht=true then 0 else 7
theorem yn4(HI:zf2 lib)(HL:zqh lib)(HC:zxk lib)(HP:zcz lib)(HB:zgp lib)(HN:zqi lib)(m:Mail)(hm:m.small):evW code lib 12 [.agg (zie m)] [] []=some ([.flat (.int .i64 (zja m:Nat))],false,[],[]):=by
 obtain⟨fr,to,su,te,ht⟩:=m;obtain⟨h1,h2,h3,h4,h5⟩:=hm;dsimp only at h1 h2 h3 h4 h5;have a1:=yhs HI HL HC fr (by omega);have a2:=yhs HI HL HC to (by omega);rw[addr_eq]at a1 a2;have c1:=z2c HB su (by omega);have c2:=z2c HB te (by omega);have c3:=z2c HB ht (by omega);have hx:=zzy HI su 10 (by omega);have hin:=z40 10 su;have hpg:=yu2 HP HB HN ht (by omega);have e10:((UInt8.toNat 10:Nat):Int)=10:=rfl;rw[e10]at hx;unfold zja;simp only[zie];refine zab zun (qa rfl) ?_;cases hf:zuw fr with
 |false=>
  rw[hf]at a1;simp only[wdd,if_true,n1];simp(maxSteps:=999999) (disch:=first|assumption|omega) only[go_sem,simprocAttr,au,a1]
 |true=>
 rw[hf]at a1;cases ht2:zuw to with
 |false=>
  rw[ht2]at a2;simp only[wdc,if_true,n1];simp(maxSteps:=999999) (disch:=first|assumption|omega) only[go_sem,simprocAttr,au,a1,a2]
 |true=>
 rw[ht2]at a2;simp only[wc4,wea,if_false];have e7:((7:Nat):Int)=7:=rfl;by_cases hc1:zgu su=su
 ·have hc1':=eq_true hc1
  by_cases hc2:zgu te=te
  ·have hc2':=eq_true hc2
   by_cases hc3:zgu ht=ht
   ·have hc3':=eq_true hc3
    cases hat:at1 10 su with
    |some i=>
     rw[hat]at hin;simp only[hat]at hx;simp only[<-hin,wc3,wea,false_and,and_false,if_false,e7];simp(maxSteps:=999999) (disch:=first|assumption|omega) only[go_sem,simprocAttr,au,a1,a2,c1,c2,c3,hc1',hc2',hc3',hx,zdr,zbv,zbz,zb9,zee,zdg]
    |none=>
     rw[hat]at hin;simp only[hat]at hx;cases hpu:yht ht with
     |false=>
      rw[hpu]at hpg;simp only[wbf,and_false,if_false,e7];simp(maxSteps:=999999) (disch:=first|assumption|omega) only[go_sem,simprocAttr,au,a1,a2,c1,c2,c3,hc1',hc2',hc3',hx,hpg,zdr,zbv,zbz,zb9,zee,zdg]
     |true=>
      rw[hpu]at hpg;rw[if_pos ⟨hc1,hc2,hc3,by rw[<-hin];rfl,rfl⟩];simp(maxSteps:=999999) (disch:=first|assumption|omega) only[go_sem,simprocAttr,au,a1,a2,c1,c2,c3,hc1',hc2',hc3',hx,hpg,zdr,zbv,zbz,zb9,zee,zdg]
   ·have hc3':=eq_false hc3
    rw[if_neg (fun h=>hc3 h.2.2.1),e7];simp(maxSteps:=999999) (disch:=first|assumption|omega) only[go_sem,simprocAttr,au,a1,a2,c1,c2,c3,hc1',hc2',hc3',zdr,zbv,zbz,zb9,zee,zdg]
  ·have hc2':=eq_false hc2
   rw[if_neg (fun h=>hc2 h.2.1),e7];simp(maxSteps:=999999) (disch:=first|assumption|omega) only[go_sem,simprocAttr,au,a1,a2,c1,c2,hc1',hc2',zdr,zbv,zbz,zb9,zee,zdg]
 ·have hc1':=eq_false hc1
  rw[if_neg (fun h=>hc1 h.1),e7];simp(maxSteps:=999999) (disch:=first|assumption|omega) only[go_sem,simprocAttr,au,a1,a2,c1,hc1',zdr,zbv,zbz,zb9,zee,zdg]
theorem yhu(m:Mail)(hm:m.small):evW code lib 24 [.agg (zie m)] [] []=some ([.flat (.int .i64 (zja m:Nat))],false,[],[]):=by
 obtain⟨fr,to,su,te,ht⟩:=m;obtain⟨h1,h2,h3,h4,h5⟩:=hm;dsimp only at h1 h2 h3 h4 h5;have a1:=yan (lib:=lib) fr (by omega);have a2:=yan (lib:=lib) to (by omega);have c1:=zxg (lib:=lib) su (by omega);have c2:=zxg (lib:=lib) te (by omega);have c3:=zxg (lib:=lib) ht (by omega);have hx:=zs4 (lib:=lib) su [10] (by omega) (by decide);rw[z2q]at hx;have htk:=yc1 (lib:=lib) ht (by omega);unfold zja;simp only[zie];refine zab zyo (qa rfl) ?_;cases hf:zuw fr with
 |false=>
  rw[hf]at a1;simp only[wdd,if_true,n1];simp(maxSteps:=999999) (disch:=first|assumption|omega) only[go_sem,simprocAttr,au,a1]
 |true=>
 rw[hf]at a1;cases ht2:zuw to with
 |false=>
  rw[ht2]at a2;simp only[wdc,if_true,n1];simp(maxSteps:=999999) (disch:=first|assumption|omega) only[go_sem,simprocAttr,au,a1,a2]
 |true=>
 rw[ht2]at a2;simp only[wc4,wea,if_false];have e7:((7:Nat):Int)=7:=rfl;unfold yht;cases hE:z2h ht with
 |none=>
  rw[hE]at htk;dsimp only at htk⊢;simp only[wbf,and_false,if_false,e7];rcases wd3 (zgu su=su)with b1|b1<;>rcases wd3 (zgu te=te)with b2|b2<;>rcases wd3 (zgu ht=ht)with b3|b3<;>cases hv:su.contains 10
  all_goals
   rw[hv]at hx
   first|have b1':=eq_false b1|have b1':=eq_true b1
   first|have b2':=eq_false b2|have b2':=eq_true b2
   first|have b3':=eq_false b3|have b3':=eq_true b3
   clear b1 b2 b3;simp(maxSteps:=999999) (disch:=first|assumption|omega) only[go_sem,simprocAttr,au,a1,a2,c1,c2,c3,htk,hx,b1',b2',b3']
 |some l=>
  rw[hE]at htk;have hn:=yc2 (lib:=lib) l (by have:=z5o hE;omega);dsimp only at htk⊢;rcases wd3 (zgu su=su)with b1|b1<;>rcases wd3 (zgu te=te)with b2|b2<;>rcases wd3 (zgu ht=ht)with b3|b3<;>rcases web (su.contains 10)with hv|hv<;>rcases web (z2p l)with hne|hne
  all_goals
   rw[hv]at hx;rw[hne]at hn
   first|have b1':=eq_false b1|have b1':=eq_true b1
   first|have b2':=eq_false b2|have b2':=eq_true b2
   first|have b3':=eq_false b3|have b3':=eq_true b3
   clear b1 b2 b3;simp only[b1',b2',b3',hv,hne,wbf,wea,and_true,true_and,and_false,false_and,if_true,if_false,e7,n0];simp(maxSteps:=999999) (disch:=first|assumption|omega) only[go_sem,simprocAttr,au,a1,a2,c1,c2,c3,htk,hx,hn,b1',b2',b3',zxj]
end Nun
namespace Nun
open Go
def ix(o:Option Nat):Int:=match o with
 |some i=>(i:Int)
 |none=>-1
theorem zz7(c:UInt8)(s:Str):∀k,k<=s.length->Lib.lastIdx (S s) (c.toNat:Nat) k=ix (zhl c (s.take k))
 |0,_=>by simp[Lib.lastIdx,zhl,ix]
 |k+1,h=>by
  have hk:k<s.length:=h;have ht:s.take (k+1)=s.take k++[s[k]]:=wa0 hk;have hg:(S s).data[k]! =s[k]:=by
   show s.toArray[k]! =s[k];simp[hk]
  rw[Lib.lastIdx,hg,ht];by_cases hc:s[k]=c
  ·have h1:zhl c [s[k]]=some 0:=by simp[zhl,hc]
   rw[zrz h1,wa2,Nat.min_eq_left (by omega),hc,if_pos rfl]
   all_goals (simp[ix])
  ·have h2:¬((s[k].toNat:Int)=(c.toNat:Nat)):=fun e=>hc (wdv.1 (by omega))
   rw[if_neg h2,zz7 c s k (by omega)];congr 1;by_cases hm:c∈s.take k
   ·obtain⟨i,hi⟩:=zon hm
    have:∀p:Str,(∃j,zhl c p=some j)->zhl c (p++[s[k]])=zhl c p:=by
     intro p
     induction p with
     |nil=>rintro⟨j,hj⟩;cases hj
     |cons x l ih=>
      rintro⟨j,hj⟩;simp only[wai,zhl];by_cases hl:c∈l
      ·rw[ih (zon hl)]
      ·rw[zg9 hl]
       rw[zg9 (s:=l++[s[k]]) (by
        rw[wak];rintro(h|h)
        ·exact hl h
        ·simp at h;exact hc h.symm)]
    exact(this _ ⟨i,hi⟩).symm
   ·rw[zg9 hm,zg9 (s:=s.take k++[s[k]]) (by
     rw[wak];rintro(h|h)
     ·exact hm h
     ·simp at h;exact hc h.symm)]
theorem yhv(c:UInt8)(s:Str):Lib.lastIndexByte (S s) (c.toNat:Nat)=ix (zhl c s):=by
 unfold Lib.lastIndexByte;rw[zai,zz7 c s _ (wab _),wds]
theorem zz8(w:Str)(hw:w≠[]):∀s:Str,Lib.contains s w=zd4 s w
 |[]=>by
  unfold Lib.contains Lib.index zd4;cases w with
  |nil=>exact absurd rfl hw
  |cons a l=>rfl
 |x::l=>by
  have h:=zz8 w hw l;unfold Lib.contains at h⊢;unfold Lib.index zd4;rw[<-h];cases hp:w.isPrefixOf (x::l)with
  |true=>simp
  |false=>
   simp only[wbf,if_false,wcx];have hge:=Lib.index_ge l w;by_cases h1:Lib.index l w=-1
   ·have:(Lib.index l w==-1)=true:=by simpa using h1
    rw[this,if_pos rfl,h1]
   ·have:(Lib.index l w==-1)=false:=by simpa using h1
    rw[this,if_neg (by simp),decide_eq_decide];omega
end Nun
namespace Go.Proofs.YtmpiobfdchlikaaGreatDoor
set_option maxRecDepth 100000
open Nun
def zjb:CCode:=(.seq (.seq (.reg [5,6,7,8,24] [] [⟨some 20,none,.mv (.t 5)⟩,⟨some 21,none,.nilc (.t 20)⟩,⟨some 22,none,.fadr 0 (.t 21)⟩,⟨some 23,none,.load false 1 (.t 22)⟩,⟨some 24,none,.bin .neq (.t 23) (.c (.flat (.string ⟨#[]⟩)))⟩]) (.cond (.t 24) .skip (.exit 0 [6,7,8]))) (.seq (.block 1 (.seq (.seq (.reg [5,6,7,8,29] [] [⟨some 27,none,.mv (.t 5)⟩,⟨some 28,none,.call 175 [.t 27,.c (.flat (.int .u8 59))]⟩,⟨some 29,none,.un .not (.t 28)⟩]) (.cond (.t 29) (.seq (.reg [2,3,4] [] [⟨some 2,none,.asg (.c (.flat (.string ⟨#[]⟩)))⟩,⟨some 3,none,.asg (.c (.flat (.slice .none 0 0)))⟩,⟨some 4,none,.asg (.c (.flat (.int .i64 7)))⟩]) (.ret [2,3,4])) .skip)) (.seq (.reg [5,6,7,8,9,10] [] [⟨some 31,none,.mv (.t 5)⟩,⟨some 32,none,.call 176 [.t 31]⟩,⟨some 30,none,.mv (.t 32)⟩,⟨some 33,none,.ext (.t 30) 0⟩,⟨some 34,none,.ext (.t 30) 1⟩,⟨some 9,none,.alloc 114 [.flat (.string ⟨#[]⟩),.flat (.string ⟨#[]⟩)]⟩,⟨none,none,.store 2 (.t 9) (.t 33)⟩,⟨some 10,none,.asg (.t 34)⟩]) (.seq (.seq (.reg [5,6,7,8,9,36] [] [⟨some 35,none,.mv (.t 10)⟩,⟨some 36,none,.un .not (.t 35)⟩]) (.cond (.t 36) (.seq (.reg [2,3,4] [] [⟨some 2,none,.asg (.c (.flat (.string ⟨#[]⟩)))⟩,⟨some 3,none,.asg (.c (.flat (.slice .none 0 0)))⟩,⟨some 4,none,.asg (.c (.flat (.int .i64 7)))⟩]) (.ret [2,3,4])) .skip)) (.seq (.seq (.reg [5,6,7,8,9,39] [] [⟨some 37,none,.mv (.t 7)⟩,⟨some 38,none,.clos 178 [.t 9]⟩,⟨some 39,none,.call 177 [.t 37,.t 38]⟩]) (.cond (.t 39) (.reg [5,6,7,8,9] [] [⟨some 8,none,.asg (.c (.flat (.int .i64 9)))⟩]) .skip)) (.reg [5,6,7,8] [] [⟨some 40,none,.mvA 7⟩,⟨some 41,none,.load true 2 (.t 9)⟩,⟨some 42,none,.mksl false 1 2 [.flat (.string ⟨#[]⟩),.flat (.string ⟨#[]⟩)] [⟨0,⟨2,.t 41⟩⟩]⟩,⟨some 43,none,.append false 2 (.t 40) (.t 42)⟩,⟨some 7,none,.asg (.t 43)⟩])))))) (.reg [5,6,7,8] [] [⟨some 25,none,.mv (.t 5)⟩,⟨some 26,none,.call 173 [.t 25]⟩])))
def znx:CCode:=zjb
theorem zux{cf:Nun.Callee}{m:Nat}{st:Nun.St}:evC cf m znx st=evC cf m zjb st:=rfl
attribute [go_sem] zjb
def z2r:CFun:=⟨53,[.inl 2,.inl 3,.inl 4],(.seq (.reg [0] [] [⟨some 2,none,.asg (.c (.flat (.string ⟨#[]⟩)))⟩,⟨some 3,none,.asg (.c (.flat (.slice .none 0 0)))⟩,⟨some 4,none,.asg (.c (.flat (.int .i64 0)))⟩]) (.seq (.reg [5] [] [⟨some 11,none,.mv (.t 0)⟩,⟨some 12,none,.build [.flat (.string ⟨#[]⟩)] [⟨0,⟨1,.t 11⟩⟩]⟩,⟨some 13,none,.box 199 1 (.t 12)⟩,⟨some 5,none,.asg (.t 13)⟩]) (.seq (.reg [5] [] [⟨some 14,none,.mv (.t 5)⟩,⟨some 15,none,.call 173 [.t 14]⟩]) (.seq (.reg [5,6] [] [⟨some 16,none,.mv (.t 5)⟩,⟨some 17,none,.call 174 [.t 16]⟩,⟨some 6,none,.asg (.t 17)⟩]) (.seq (.reg [5,6,7] [] [⟨some 7,none,.asg (.c (.flat (.slice .none 0 0)))⟩]) (.seq (.reg [5,6,7,8] [] [⟨some 8,none,.asg (.c (.flat (.int .i64 0)))⟩]) (.seq (.seq (.reg [5,6,7,8] [] [⟨some 18,none,.mv (.t 5)⟩,⟨some 19,none,.call 173 [.t 18]⟩]) (.block 0 (.loop [5,6,7,8] znx))) (.seq (.block 2 (.seq (.reg [6,7,8,44] [] [⟨some 45,none,.mv (.t 6)⟩,⟨some 46,none,.bin .eql (.t 45) (.c (.flat (.string ⟨#[]⟩)))⟩,⟨some 44,none,.asg (.t 46)⟩]) (.cond (.t 44) (.seq (.reg [2,3,4] [] [⟨some 2,none,.asg (.c (.flat (.string ⟨#[]⟩)))⟩,⟨some 3,none,.asg (.c (.flat (.slice .none 0 0)))⟩,⟨some 4,none,.asg (.c (.flat (.int .i64 7)))⟩]) (.ret [2,3,4])) (.seq (.reg [6,7,8,47] [] [⟨some 48,none,.mv (.t 8)⟩,⟨some 49,none,.bin .neq (.t 48) (.c (.flat (.int .i64 0)))⟩,⟨some 47,none,.asg (.t 49)⟩]) (.cond (.t 47) (.seq (.reg [2,3,4] [] [⟨some 50,none,.mv (.t 8)⟩,⟨some 2,none,.asg (.c (.flat (.string ⟨#[]⟩)))⟩,⟨some 3,none,.asg (.c (.flat (.slice .none 0 0)))⟩,⟨some 4,none,.asg (.t 50)⟩]) (.ret [2,3,4])) .skip))))) (.seq (.reg [2,3,4] [] [⟨some 51,none,.mv (.t 6)⟩,⟨some 52,none,.mv (.t 7)⟩,⟨some 2,none,.asg (.t 51)⟩,⟨some 3,none,.asg (.t 52)⟩,⟨some 4,none,.asg (.c (.flat (.int .i64 0)))⟩]) (.ret [2,3,4])))))))))),[]⟩
def zqj:CFun:=⟨40,[.inr ⟨2,⟨true,2⟩⟩,.inl 3],(.seq (.reg [0,2] [] [⟨some 2,none,.alloc 114 [.flat (.string ⟨#[]⟩),.flat (.string ⟨#[]⟩)]⟩,⟨some 3,none,.asg (.c (.flat (.bool false)))⟩]) (.seq (.reg [0,2] [] [⟨some 7,none,.mv (.t 0)⟩,⟨some 8,none,.call 173 [.t 7]⟩]) (.seq (.reg [0,2,4] [] [⟨some 9,none,.mv (.t 0)⟩,⟨some 10,none,.call 174 [.t 9]⟩,⟨some 11,none,.build [.flat (.string ⟨#[]⟩),.flat (.string ⟨#[]⟩)] [⟨0,⟨1,.t 10⟩⟩]⟩,⟨some 4,none,.alloc 114 [.flat (.string ⟨#[]⟩),.flat (.string ⟨#[]⟩)]⟩,⟨none,none,.store 2 (.t 4) (.t 11)⟩]) (.seq (.seq (.reg [0,2,4,20] [] [⟨some 12,none,.fadr 0 (.t 4)⟩,⟨some 13,none,.load false 1 (.t 12)⟩,⟨some 14,none,.call 123 [.t 13]⟩,⟨some 15,none,.un .not (.t 14)⟩,⟨some 16,none,.mv (.t 15)⟩,⟨some 17,some ⟨16,false⟩,.mv (.t 0)⟩,⟨some 18,some ⟨16,false⟩,.call 175 [.t 17,.c (.flat (.int .u8 61))]⟩,⟨some 19,some ⟨16,false⟩,.un .not (.t 18)⟩,⟨some 20,none,.pick (.t 16) (.c (.flat (.bool true))) (.t 19)⟩]) (.cond (.t 20) (.seq (.reg [2,3] [] [⟨some 21,none,.load true 2 (.t 4)⟩,⟨none,none,.store 2 (.t 2) (.t 21)⟩,⟨some 3,none,.asg (.c (.flat (.bool false)))⟩]) (.ret [2,3])) .skip)) (.seq (.seq (.reg [0,2,4,23] [] [⟨some 22,none,.mv (.t 0)⟩,⟨some 23,none,.call 175 [.t 22,.c (.flat (.int .u8 34))]⟩]) (.cond (.t 23) (.seq (.reg [2,4,5,6] [] [⟨some 25,none,.mv (.t 0)⟩,⟨some 26,none,.call 210 [.t 25]⟩,⟨some 24,none,.mv (.t 26)⟩,⟨some 27,none,.ext (.t 24) 0⟩,⟨some 28,none,.ext (.t 24) 1⟩,⟨some 5,none,.asg (.t 27)⟩,⟨some 6,none,.asg (.t 28)⟩]) (.seq (.reg [2,4,6] [] [⟨some 29,none,.mv (.t 5)⟩,⟨some 30,none,.fadr 1 (.t 4)⟩,⟨none,none,.store 1 (.t 30) (.t 29)⟩]) (.seq (.reg [2,3] [] [⟨some 31,none,.load true 2 (.t 4)⟩,⟨some 32,none,.mv (.t 6)⟩,⟨none,none,.store 2 (.t 2) (.t 31)⟩,⟨some 3,none,.asg (.t 32)⟩]) (.ret [2,3])))) .skip)) (.seq (.reg [2,4] [] [⟨some 33,none,.mv (.t 0)⟩,⟨some 34,none,.call 174 [.t 33]⟩,⟨some 35,none,.fadr 1 (.t 4)⟩,⟨none,none,.store 1 (.t 35) (.t 34)⟩]) (.seq (.regT [2,3] [⟨some 36,none,.load true 2 (.t 4)⟩,⟨some 37,none,.fadr 1 (.t 4)⟩] (.two ⟨some 38,none,.load false 1 (.t 37)⟩ (.two ⟨some 39,none,.bin .neq (.t 38) (.c (.flat (.string ⟨#[]⟩)))⟩ (.one ⟨none,none,.store 2 (.t 2) (.t 36)⟩ (.one ⟨some 3,none,.asg (.t 39)⟩ .done)) (.one ⟨none,none,.store 2 (.t 2) (.t 36)⟩ (.one ⟨some 39,none,.bin .neq (.t 38) (.c (.flat (.string ⟨#[]⟩)))⟩ (.one ⟨some 3,none,.asg (.t 39)⟩ .done)))) (.one ⟨none,none,.store 2 (.t 2) (.t 36)⟩ (.one ⟨some 38,none,.load false 1 (.t 37)⟩ (.one ⟨some 39,none,.bin .neq (.t 38) (.c (.flat (.string ⟨#[]⟩)))⟩ (.one ⟨some 3,none,.asg (.t 39)⟩ .done)))))) (.ret [2,3])))))))),[]⟩
theorem zuy:code 125=some z2r:=by kernel_rfl
theorem zgv:code 176=some zqj:=by kernel_rfl
end Go.Proofs.YtmpiobfdchlikaaGreatDoor
namespace Nun
open Go Go.RowKit Go.Proofs Go.Proofs.YtmpiobfdchlikaaGreatDoor
variable {lib:Callee}
def zk7(mark:Str):Str:=[45,45]++mark++[13,10]
def zny(mark:Str):Str:=[13,10,45,45]++mark++[13,10]
def endB(mark:Str):Str:=[13,10,45,45]++mark++[45,45,13,10]
def bodT(s mark:Str)(q:List Str×Nat×Nat):(List Str×Nat×Nat) ⊕ Option (List Str×Bool):=
 if q.2.2<s.length then
  if zav s (zny mark) q.2.2 then .inl (q.1++[(s.take q.2.2).drop q.2.1],q.2.2+(zny mark).length,q.2.2+(zny mark).length)
  else if zav s (endB mark) q.2.2 then .inr (some (q.1++[(s.take q.2.2).drop q.2.1],decide (q.2.2+(endB mark).length=s.length)))
  else .inl (q.1,q.2.1,q.2.2+1)
 else .inr none
def z8b(s mark:Str):Option (List Str×Bool):=if zav s (zk7 mark) 0 then runS (bodT s mark) none (s.length+1) ([],(zk7 mark).length,(zk7 mark).length)else none
def z8c(s mark:Str)(q:List Str×Nat×Nat):St:=⟨[(0,.flat (.string (S s))),(7,.flat (.string (S (zny mark)))),(8,.flat (.string (S (endB mark)))),(9,.slc q.1.length (zaq q.1)),(10,.flat (.int .i64 (q.2.1:Nat))),(11,.flat (.int .i64 (q.2.2:Nat)))],[.slot 9],[],[]⟩
def finB:Option (List Str×Bool)->Out×St
 |none=>(.exit 0,⟨[],[],[],[]⟩)
 |some (out,ok)=>(.ret,⟨[(4,.slc out.length (zaq out)),(5,.flat (.bool ok))],[.slot 4],[],[]⟩)
theorem zoo{s w:Str}{k:Nat}(h:zav s w k=true):k+w.length<=s.length:=by
 unfold zav at h;rw[wb1,decide_eq_true_eq]at h;have:=List.IsPrefix.length_le (wdj.1 h.2);rw[wbc]at this;omega
theorem yhw(s mark:Str)(hs:s.length<=100000000)(hm:mark.length<=1000000):evW code lib 67 [.flat (.string (S s)),.flat (.string (S mark))] [] []=some (match z8b s mark with
 |none=>([.slc 0 [],.flat (.bool false)],false,[],[])
 |some (out,ok)=>([.slc out.length (zaq out),.flat (.bool ok)],false,[],[])):=by
 have hbv:bound=4294967296:=rfl;have lo:(zk7 mark).length=mark.length+4:=by simp[zk7]
 have lb:(zny mark).length=mark.length+6:=by simp[zny]
 have le:(endB mark).length=mark.length+8:=by simp[endB]
 have b1:=ze5 (lib:=lib) s (zk7 mark) 0 (by omega) (by omega) (by omega);simp only[n0]at b1;refine zab zw6 (qa rfl) ?_;unfold z8b;have ho:S (45::45::(mark++[13,10]))=S (zk7 mark):=rfl;have hb:S (13::10::45::45::(mark++[13,10]))=S (zny mark):=rfl;have he:S (13::10::45::45::(mark++[45,45,13,10]))=S (endB mark):=rfl;cases ho1:zav s (zk7 mark) 0 with
 |false=>
  rw[ho1]at b1;simp(maxSteps:=999999) (disch:=first|assumption|omega) only[go_sem,simprocAttr,au,b1,ho,hb,he]
 |true=>
  rw[ho1]at b1;have hlen:=zoo ho1
  have hloop:=zl4 (body:=evC (evW code lib) big zkf) (live:=[0,7,8,9,10,11]) (nb:=0) (z8c s mark) (bodT s mark) none finB (fun q=>q.2.1<=q.2.2/\q.2.2<=s.length/\q.1.length<=q.2.2) (fun q=>s.length - q.2.2) (fun q hq=>?_) (fun q hq=>by simp only[z8c,go_sem,simprocAttr])
   (fun a b ha h=>?_) (fun r=>by cases r<;>simp[finB]) (n:=s.length+1) ([],(zk7 mark).length,(zk7 mark).length) ⟨wab _,by dsimp only;omega,wa7 _⟩ (by dsimp only;omega) (by dsimp only;unfold big;omega)
  ·obtain⟨R,hR⟩:∃R,runS (bodT s mark) none (s.length+1) ([],(zk7 mark).length,(zk7 mark).length)=R:=⟨_,rfl⟩
   rw[hR]at hloop;simp only[if_true,hR];unfold z8c at hloop;have e0:zaq ([]:List Str)=[]:=rfl;simp only[wdb,e0]at hloop;have hs5:(S (zk7 mark)).size=(zk7 mark).length:=zai;cases R with
   |none=>
    simp only[finB]at hloop;simp(maxSteps:=999999) (disch:=first|assumption|omega) only[go_sem,simprocAttr,au,b1,ho,hb,he,hloop,hs5]
   |some r=>
    obtain⟨out,ok⟩:=r;simp only[finB]at hloop;simp(maxSteps:=999999) (disch:=first|assumption|omega) only[go_sem,simprocAttr,au,b1,ho,hb,he,hloop,hs5]
  ·obtain⟨out,fr,i⟩:=q
   obtain⟨h1,h2,h3⟩:=hq;dsimp only at h1 h2 h3;have c1:=ze5 (lib:=lib) s (zny mark) i (by omega) (by omega) (by omega);have c2:=ze5 (lib:=lib) s (endB mark) i (by omega) (by omega) (by omega);have e1:[PV.flat (.string (S ((s.take i).drop fr)))]=zaq [(s.take i).drop fr]:=rfl;unfold bodT;dsimp only;by_cases hlt:i<s.length
   ·rw[if_pos hlt]
    cases hb1:zav s (zny mark) i with
    |true=>
     rw[hb1]at c1;have hl1:=zoo hb1;simp only[if_true,outS];obtain⟨n,hn⟩:∃n,(zny mark).length=n:=⟨_,rfl⟩;simp only[hn]at hl1 lb⊢;unfold z8c;have hsz:(S (zny mark)).size=n:=by rw[zai,hn]
     have w2:IntKind.i64.wrap ((i:Int)+(n:Int) - 1+1)=((i+n:Nat):Int):=by rw[wrap64 (by omega)];omega
     simp(maxSteps:=999999) (disch:=first|assumption|omega) only[go_sem,simprocAttr,au,c1,hsz,zgm,zam,zbf,w2];simp only[e1,zk0,wb0,waf,wdb]
    |false=>
     rw[hb1]at c1;simp only[wbf,if_false];cases hb2:zav s (endB mark) i with
     |true=>
      rw[hb2]at c2;have hl1:=zoo hb2;simp only[if_true,outS,finB];obtain⟨n,hn⟩:∃n,(endB mark).length=n:=⟨_,rfl⟩;simp only[hn]at hl1 le⊢;unfold z8c;have hsz:(S (endB mark)).size=n:=by rw[zai,hn]
      simp(maxSteps:=999999) (disch:=first|assumption|omega) only[go_sem,simprocAttr,au,c1,c2,hsz,zgm,zam,zbf];have d1:((i:Int)+(n:Int)=(s.length:Nat))=(i+n=s.length):=by apply propext;omega
      simp only[e1,zk0,wb0,waf,wdb,d1,wbx]
     |false=>
      rw[hb2]at c2;simp only[wbf,if_false,outS];unfold z8c;simp(maxSteps:=999999) (disch:=first|assumption|omega) only[go_sem,simprocAttr,au,c1,c2,zgm]
   ·rw[if_neg hlt]
    simp only[outS,finB];unfold z8c;simp(maxSteps:=999999) (disch:=first|assumption|omega) only[go_sem,simprocAttr,au,zgm]
  ·obtain⟨out,fr,i⟩:=a
   obtain⟨h1,h2,h3⟩:=ha;dsimp only at h1 h2 h3;unfold bodT at h;dsimp only at h;split at h
   ·split at h
    ·rename_i hb1
     have:=zoo hb1;cases h;dsimp only;simp only[wb0,waf,wdb];omega
    ·split at h
     ·cases h
     ·cases h
      dsimp only;omega
   ·cases h
end Nun
section
namespace Nun
open Go Go.RowKit
abbrev Thr:=Value×zae×List Loc
abbrev zjv:=FuncId->List PV->zae->List Loc->Thr->Prop
abbrev ThrS:=Value×List PV×zae×List Loc
inductive Rt where
 | op (f:FuncId) (k:Nat)
 | l (r:Rt)
 | r (r:Rt)
 | lp (m:Nat) (r:Rt)
 | rg
def yn5(st:St):COp->Option (FuncId×List PV)
 | .call f args=>some (f,args.map fun x=>(x.ev st.sl).weak)
 | .callv g args=>match g.ev st.sl with
   | .clo f caps=>if f=yldF then none else some (f,(args.map fun x=>(x.ev st.sl).weak)++caps)
   |_=>none
 |_=>none
def znz(pf:zjv)(kl:List Nat)(st:St)(f:FuncId)(args:List PV)(q:ThrS):Prop:=
 q.2.1=kl.map (look st.sl)/\if zcd args=true then(∃bx oc,pf f args [] [] (q.1,bx,oc))/\q.2.2=(st.bx,st.ow.filter zad)else pf f args st.bx (st.ow.filter zad) (q.1,q.2.2)
def PanS(cf:Callee)(pf:zjv)(kl:List Nat)(f:FuncId)(o:COper)(k:Nat)(st:St)(q:ThrS)(K:Nat->St->Prop):Prop:=match zej st o.g with
 |some true=>(match yn5 st o.op with
  |some (g,args)=>if g=f then(match k with
   |0=>znz pf kl st f args q
   |k+1=>match stepG cf st o with|some st'=>K k st'|none=>False)
    else match stepG cf st o with|some st'=>K k st'|none=>False
  |none=>match stepG cf st o with|some st'=>K k st'|none=>False)
 |_=>match stepG cf st o with|some st'=>K k st'|none=>False
def zpr(cf:Callee)(pf:zjv)(kl:List Nat)(f:FuncId):List COper->Nat->St->ThrS->Prop
 |[],_,_,_=>False
 |o::r,k,st,q=>PanS cf pf kl f o k st q fun k st'=>zpr cf pf kl f r k st' q
def PanT(cf:Callee)(pf:zjv)(kl:List Nat)(f:FuncId):BT->Nat->St->ThrS->Prop
 | .done,_,_,_=>False
 | .one o t,k,st,q=>PanS cf pf kl f o k st q fun k st'=>PanT cf pf kl f t k st' q
 | .two o t r,k,st,q=>(PanS cf pf kl f o k st q fun k st'=>PanT cf pf kl f t k st' q)/\PanT cf pf kl f r k st q
def zki(body:St->Option (Out×St))(pbody:St->Prop)(live:List Nat)(nb:Nat):Nat->St->Prop
 |0,st=>pbody st
 |n+1,st=>match body st with
  |some (.normal,st')=>zki body pbody live nb n (st'.only live nb)
  |_=>False
def z2s(pf:zjv)(kl:List Nat)(f k:Nat)(live:List Nat)(g:PV)(st:St)(q:ThrS):Prop:=match g with
 | .clo h caps=>h≠yldF/\q.2.1=kl.map (look st.sl)/\pf h (.yld st.bx.length::caps) (st.bx++[(0,[.lp f k .ready live (live.map (look st.sl))])]) (st.ow.filter zad) (q.1,q.2.2)
 |_=>False
def PanC(cf:Callee)(pf:zjv)(kl:List Nat)(n:Nat):CCode->Rt->St->ThrS->Prop
 | .reg _ [] tail,.op f k,st,q=>zpr cf pf kl f tail k st q
 | .regT _ pre t,.op f k,st,q=>(pre.all fun o=>match o.dst with|some d=>!kl.contains d|none=>true)=true/\match evQ cf pre st with
   |some s=>PanT cf pf kl f t k s q
   |none=>False
 | .seq a _,.l r,st,q=>PanC cf pf kl n a r st q
 | .seq a b,.r r,st,q=>match evC cf n a st with
   |some (.normal,st')=>PanC cf pf kl n b r st' q
   |_=>False
 | .cond c a b,r,st,q=>match c.ev st.sl with
   | .flat (.bool t)=>if t then PanC cf pf kl n a r st q else PanC cf pf kl n b r st q
   |_=>False
 | .block _ b,r,st,q=>PanC cf pf kl n b r st q
 | .loop live b,.lp m r,st,q=>zki (evC cf n b) (fun s=>PanC cf pf kl n b r s q) live st.bx.length m (st.only live st.bx.length)
 | .range f k live g,.rg,st,q=>z2s pf kl f k live (g.ev st.sl) st q
 |_,_,_,_=>False
def PanF(code:FuncId->Option CFun)(cf:Callee)(n0:Nat)(plib:zjv):Nat->zjv
 |0,_,_,_,_,_=>False
 |n+1,f,args,bx,oc,q=>match code f with
  |none=>f≠yldF/\plib f args bx oc q
  |some c=>args.length<=c.nt/\∃rt q0,PanC cf (PanF code cf n0 plib n) [] n0 c.body rt {sl:=zik 0 args,ow:=oc,al:=[],bx} q0/\q.1=q0.1/\q.2.1=trim bx.length [] q0.2.2.1/\∀L∈q.2.2,L∈zdj (trim bx.length [] q0.2.2.1).length q0.2.2.2
section
variable {P:Program} {w w':World} {r:Option Nat} {Fr Fr':Nat→Nat} {β β':List Nat} {T:List Deferred} {base nt:Nat} {M:Nat→Prop} {w0:World} {F0:Nat→Nat} {st st':St} {a a':Act} {cf:Callee} {pf:zjv} {Γ:Glob} {S:S0}
end
section
variable {cf:Callee} {pf pf':zjv}
theorem znz.mono(h:∀f args bx oc q,pf f args bx oc q->pf' f args bx oc q){st:St}{f:FuncId}{args:List PV}{kl:List Nat}{q:ThrS}(k:znz pf kl st f args q):znz pf' kl st f args q:=by
 unfold znz at k⊢;obtain⟨k0,k⟩:=k;refine⟨k0,?_⟩;split
 ·rename_i hc
  rw[if_pos hc]at k;obtain⟨⟨bx,oc,k1⟩,k2⟩:=k;exact⟨⟨bx,oc,h _ _ _ _ _ k1⟩,k2⟩
 ·rename_i hc
  rw[if_neg hc]at k;exact h _ _ _ _ _ k
theorem PanS.mono(h:∀f args bx oc q,pf f args bx oc q->pf' f args bx oc q){f:FuncId}{o:COper}{k:Nat}{st:St}{kl:List Nat}{q:ThrS}{K K':Nat->St->Prop}(hK:∀k s,K k s->K' k s)(hp:PanS cf pf kl f o k st q K):PanS cf pf' kl f o k st q K':=by
 have next:∀{m},(match stepG cf st o with|some st'=>K m st'|none=>False)->(match stepG cf st o with|some st'=>K' m st'|none=>False):=fun{m} hm=>by
  split at hm
  ·exact hK _ _ hm
  ·exact hm.elim
 unfold PanS at hp⊢;split at hp
 ·split at hp
  ·split at hp
   ·rename_i hgf
    rw[if_pos hgf];split at hp
    ·exact hp.mono h
    ·exact next hp
   ·rename_i hgf
    rw[if_neg hgf];exact next hp
  ·exact next hp
 ·exact next hp
theorem zpr.mono(h:∀f args bx oc q,pf f args bx oc q->pf' f args bx oc q){f:FuncId}{kl:List Nat}{q:ThrS}:∀(l:List COper)(k:Nat)(st:St),zpr cf pf kl f l k st q->zpr cf pf' kl f l k st q
 |[],_,_,hp=>hp
 |o::r,k,st,hp=>PanS.mono h (fun k s=>zpr.mono h r k s) hp
theorem PanT.mono(h:∀f args bx oc q,pf f args bx oc q->pf' f args bx oc q){f:FuncId}{kl:List Nat}{q:ThrS}:∀(t:BT)(k:Nat)(st:St),PanT cf pf kl f t k st q->PanT cf pf' kl f t k st q
 | .done,_,_,hp=>hp
 | .one o t,k,st,hp=>PanS.mono h (fun k s=>PanT.mono h t k s) hp
 | .two o t r,k,st,hp=>⟨PanS.mono h (fun k s=>PanT.mono h t k s) hp.1,PanT.mono h r k st hp.2⟩
theorem zki.mono{body:St->Option (Out×St)}{p p':St->Prop}(h:∀s,p s->p' s){live:List Nat}{nb:Nat}:∀(n:Nat)(st:St),zki body p live nb n st->zki body p' live nb n st
 |0,st,k=>h st k
 |n+1,st,k=>by
  unfold zki at k⊢;split at k
  ·exact zki.mono h n _ k
  ·exact k.elim
theorem PanC.mono(h:∀f args bx oc q,pf f args bx oc q->pf' f args bx oc q){n:Nat}{kl:List Nat}{q:ThrS}:∀(c:CCode)(rt:Rt)(st:St),PanC cf pf kl n c rt st q->PanC cf pf' kl n c rt st q:=by
 intro c
 induction c with
 |reg live pre tail=>
  intro rt st k;cases rt with
  |op f i=>cases pre with
   |nil=>exact zpr.mono h _ _ _ k
   |cons p pre=>exact k.elim
  |_=>cases pre<;>exact k.elim
 |regT live pre t=>
  intro rt st k;cases rt with
  |op f i=>
   simp only[PanC]at k⊢;refine⟨k.1,?_⟩;have k:=k.2;split at k
   ·exact PanT.mono h _ _ _ k
   ·exact k.elim
  |_=>exact k.elim
 |seq a b iha ihb=>
  intro rt st k;cases rt with
  |l rt=>exact iha rt st k
  |r rt=>
   simp only[PanC]at k⊢;split at k
   ·exact ihb rt _ k
   ·exact k.elim
  |_=>exact k.elim
 |cond c a b iha ihb=>
  intro rt st k;simp only[PanC]at k⊢;split at k
  ·rename_i t e
   cases t with
   |true=>exact iha rt st k
   |false=>exact ihb rt st k
  ·exact k.elim
 |block id b ih=>intro rt st k;exact ih rt st k
 |loop live b ih=>
  intro rt st k;cases rt with
  |lp m rt=>exact zki.mono (fun s=>ih rt s) _ _ k
  |_=>exact k.elim
 |range f i live g=>
  intro rt st k;cases rt with
  |rg=>
   simp only[PanC]at k⊢;unfold z2s at k⊢;split at k
   ·exact⟨k.1,k.2.1,h _ _ _ _ _ k.2.2⟩
   ·exact k.elim
  |_=>exact k.elim
 |skip=>intro rt st k;cases rt<;>exact k.elim
 |exit id live=>intro rt st k;cases rt<;>exact k.elim
 |ret live=>intro rt st k;cases rt<;>exact k.elim
theorem PanC.depth{PF:Nat->zjv}(hm:∀n m,n<=m->∀f args bx oc q,PF n f args bx oc q->PF m f args bx oc q){n:Nat}{kl:List Nat}{q:ThrS}:∀(c:CCode)(rt:Rt)(st:St),PanC cf (fun f args bx oc q=>∃m,PF m f args bx oc q) kl n c rt st q->∃m,PanC cf (PF m) kl n c rt st q:=by
 have call:∀{st f args},znz (fun f args bx oc q=>∃m,PF m f args bx oc q) kl st f args q->∃m,znz (PF m) kl st f args q:=fun{st f args} k=>by
  unfold znz at k⊢;obtain⟨k0,k⟩:=k;split at k
  ·rename_i hc
   obtain⟨⟨bx,oc,m,k1⟩,k2⟩:=k;exact⟨m,k0,by rw[if_pos hc];exact⟨⟨bx,oc,k1⟩,k2⟩⟩
  ·rename_i hc
   obtain⟨m,k⟩:=k;exact⟨m,k0,by rw[if_neg hc];exact k⟩
 have step:∀{f o k st}{K:Nat->St->Prop}{K':Nat->Nat->St->Prop},(∀k s,K k s->∃m,K' m k s)->PanS cf (fun f args bx oc q=>∃m,PF m f args bx oc q) kl f o k st q K->∃m,PanS cf (PF m) kl f o k st q (K' m):=fun{f o k st K K'} hK hp=>by
  have next:∀{j},(match stepG cf st o with|some st'=>K j st'|none=>False)->∃m,(match stepG cf st o with|some st'=>K' m j st'|none=>False):=fun{j} hj=>by
   split at hj
   ·rename_i st' hs;obtain⟨m,hk⟩:=hK _ _ hj;exact⟨m,hk⟩
   ·exact hj.elim
  unfold PanS at hp⊢;split at hp
  ·rename_i hg
   split at hp
   ·rename_i g args ht
    split at hp
    ·rename_i hgf
     split at hp
     ·obtain⟨m,hc⟩:=call hp;exact⟨m,by rw[if_pos hgf];exact hc⟩
     ·obtain⟨m,hc⟩:=next hp;exact⟨m,by rw[if_pos hgf];exact hc⟩
    ·rename_i hgf
     obtain⟨m,hc⟩:=next hp;exact⟨m,by rw[if_neg hgf];exact hc⟩
   ·exact next hp
  ·exact next hp
 have ops:∀(f:FuncId)(l:List COper)(k:Nat)(st:St),zpr cf (fun f args bx oc q=>∃m,PF m f args bx oc q) kl f l k st q->∃m,zpr cf (PF m) kl f l k st q:=by
  intro f l
  induction l with
  |nil=>intro k st h;exact h.elim
  |cons o r ih=>intro k st h;exact step (K':=fun m k s=>zpr cf (PF m) kl f r k s q) (fun k s h=>ih k s h) h
 have tree:∀(f:FuncId)(t:BT)(k:Nat)(st:St),PanT cf (fun f args bx oc q=>∃m,PF m f args bx oc q) kl f t k st q->∃m,PanT cf (PF m) kl f t k st q:=by
  intro f t
  induction t with
  |done=>intro k st h;exact h.elim
  |one o t ih=>intro k st h;exact step (K':=fun m k s=>PanT cf (PF m) kl f t k s q) (fun k s h=>ih k s h) h
  |two o t r iht ihr=>
   intro k st h;obtain⟨m1,h1⟩:=step (K':=fun m k s=>PanT cf (PF m) kl f t k s q) (fun k s h=>iht k s h) h.1;obtain⟨m2,h2⟩:=ihr k st h.2;exact⟨max m1 m2,PanS.mono (hm m1 _ (wc5 _ _)) (fun k s=>PanT.mono (hm m1 _ (wc5 _ _)) t k s) h1,PanT.mono (hm m2 _ (wc6 _ _)) r k st h2⟩
 intro c
 induction c with
 |reg live pre tail=>
  intro rt st k;cases rt with
  |op f i=>cases pre with
   |nil=>exact ops _ _ _ _ k
   |cons p pre=>exact k.elim
  |_=>cases pre<;>exact k.elim
 |regT live pre t=>
  intro rt st k;cases rt with
  |op f i=>
   simp only[PanC]at k⊢;obtain⟨k0,k⟩:=k;split at k
   ·obtain⟨m,hm⟩:=tree _ _ _ _ k;exact⟨m,k0,hm⟩
   ·exact k.elim
  |_=>exact k.elim
 |seq a b iha ihb=>
  intro rt st k;cases rt with
  |l rt=>exact iha rt st k
  |r rt=>
   simp only[PanC]at k⊢;split at k
   ·exact ihb rt _ k
   ·exact k.elim
  |_=>exact k.elim
 |cond c a b iha ihb=>
  intro rt st k;simp only[PanC]at k⊢;split at k
  ·rename_i t e
   cases t with
   |true=>exact iha rt st k
   |false=>exact ihb rt st k
  ·exact k.elim
 |block id b ih=>intro rt st k;exact ih rt st k
 |loop live b ih=>
  intro rt st k;cases rt with
  |lp m rt=>
   simp only[PanC]at k⊢;obtain⟨s0,hs0⟩:∃s0,st.only live st.bx.length=s0:=⟨_,rfl⟩;rw[hs0]at k⊢;clear hs0
   induction m generalizing s0 with
   |zero=>exact ih rt s0 k
   |succ m ihm=>
    unfold zki at k;split at k
    ·rename_i s1 h1
     obtain⟨j,hj⟩:=ihm _ k;exact⟨j,by unfold zki;rw[h1];exact hj⟩
    ·exact k.elim
  |_=>exact k.elim
 |range f i live g=>
  intro rt st k;cases rt with
  |rg=>
   simp only[PanC]at k⊢;unfold z2s at k⊢;split at k
   ·obtain⟨h1,h0,m,h2⟩:=k
    exact⟨m,h1,h0,h2⟩
   ·exact k.elim
  |_=>exact k.elim
 |skip=>intro rt st k;cases rt<;>exact k.elim
 |exit id live=>intro rt st k;cases rt<;>exact k.elim
 |ret live=>intro rt st k;cases rt<;>exact k.elim
variable {code:FuncId→Option CFun} {n0:Nat} {plib:zjv}
theorem PanF.succ:∀(n:Nat)(f:FuncId)(args:List PV)(bx:zae)(oc:List Loc)(q:Thr),PanF code cf n0 plib n f args bx oc q->PanF code cf n0 plib (n+1) f args bx oc q
 |0,_,_,_,_,_,h=>h.elim
 |n+1,f,args,bx,oc,q,h=>by
  unfold PanF at h⊢;split
  ·rename_i hc;rw[hc]at h;exact h
  ·rename_i c hc
   rw[hc]at h;obtain⟨h1,rt,q0,h2,h3⟩:=h;exact⟨h1,rt,q0,PanC.mono (PanF.succ n) _ _ _ h2,h3⟩
theorem PanF.le{n m:Nat}(h:n<=m):∀(f:FuncId)(args:List PV)(bx:zae)(oc:List Loc)(q:Thr),PanF code cf n0 plib n f args bx oc q->PanF code cf n0 plib m f args bx oc q:=by
 induction h with
 |refl=>exact fun _ _ _ _ _ h=>h
 |step _ ih=>exact fun f args bx oc q h=>PanF.succ _ _ _ _ _ _ (ih f args bx oc q h)
end
section
variable {P:Program} {Γ:Glob} {cf:Callee}
end
end Nun
namespace Nun
open Go Go.RowKit
structure DFun where
 nt:Nat
 res:List (Sum Nat (Nat × Bool × Nat))
 pre:CCode
 d:Nat
 g:FuncId
 caps:List X
 body:CCode
def z5p(P:Program)(qs:List FuncId)(lv1 lv2:List (List Nat))(f:FuncId):Option DFun:=match P.funcs[f]? with
 |some fn=>match fn.body with
  |some (.seq a (.seq (.region _ ops false) b))=>(match ops.toList with
   |[⟨some d,.makeFunc (.func g) first caps,_,_,_,none⟩,⟨none,.defer ⟨.value (.tmp d'),args,_⟩,_,_,_,none⟩]=>
    if fn.name != "runtime.NumGoroutine"/\zaw a=[]/\zaw b=[]/\d=d'/\first.size=0/\args=#[]/\d<fn.ntmps/\zgz P g=true then
     (coXs caps).bind fun cs=>(zc2 P qs f fn.ntmps 0 lv1 a).bind fun p=>(zc2 P qs f fn.ntmps 0 lv2 b).bind fun q=>(fn.results.toList.mapM (zv0 P)).map fun rs=>⟨fn.ntmps,rs,p.1,d,g,cs,q.1⟩
    else none
   |_=>none)
  |_=>none
 |none=>none
def DFun.mid(D:DFun)(s:St):St:=s.put D.d (.clo D.g (D.caps.map (·.ev s.sl)))
def finV(res:List (Sum Nat (Nat×Bool×Nat)))(n:Nat)(st:St):Option Ans:=(res.mapM (resV st)).map fun vs=>(vs,zti res st.ow,trim n vs st.bx,zdj (trim n vs st.bx).length st.ow)
def EvD(cf:Callee)(n:Nat)(D:DFun)(args:List PV)(bx:zae)(oc:List Loc)(r:Ans):Prop:=
 args.length<=D.nt/\∃o s1,evC cf n D.pre {sl:=zik 0 args,ow:=oc,al:=[],bx}=some (o,s1)/\
  match o with
  | .exit _=>False
  | .ret=>finV D.res bx.length s1=some r
  | .normal=>∃o st,evC cf n D.body (D.mid s1)=some (o,st)/\(∀i,o≠.exit i)/\finV D.res bx.length st=some r
def y04(P:Program)(g n:Nat):Prop:=∀(cvs:List Value)(w:World),cvs.length=n->CallsDIn Fence.wide 0 P g cvs.toArray .returning w fun e u' w'=>(∃v,e=.returned v)/\u'=.returning/\w'=w
section
variable {P:Program} {w w':World} {Fr Fr':Nat→Nat} {β β':List Nat} {T:List Deferred} {base nt:Nat} {M:Nat→Prop} {w0:World} {F0:Nat→Nat} {st st':St} {a a':Act} {cf:Callee} {Γ:Glob} {S:S0}
def zz9(st:St)(a:Act)(w:World)(β:List Nat)(g:Nat):Prop:=g∈β\/∃L∈st.ow,∃v,zay a w β L=some v/\v.ownBlock=some g
theorem Rel.rebase(R:Rel P T base M w0 F0 nt st a w Fr β)(ds:List Deferred):Rel P ds w.heap.size (zz9 st a w β) w Fr nt st {a with defers:=ds} w Fr β:=by
 have hv:∀L,zay {a with defers:=ds} w β L=zay a w β L:=fun L=>by cases L<;>rfl
 exact⟨R.sl,R.nt,⟨[],List.nodup_nil,rfl,fun D h=>by cases h⟩,R.bx,R.nd,fun L hL=>by rw[hv];exact R.own L hL,fun L hL L' hL' hne v v' g=>by rw[hv,hv];exact R.sep L hL L' hL' hne v v' g,fun L hL v g=>by rw[hv];exact R.out L hL v g,fun q hq=>by rw[hv];exact R.al q hq,
  fun g hg=>.inr (hg.imp id fun⟨L,hL,v,k1,k2⟩=>⟨L,hL,v,by rw[<-hv];exact k1,k2⟩),fun _ _ _=>⟨rfl,rfl⟩,wab _,rfl,rfl,rfl⟩
theorem Rel.back{T2 T3:List Deferred}{nt2:Nat}{st2:St}{a2:Act}{w2:World}{Fr2:Nat->Nat}{β2:List Nat}(R:Rel P T base M w0 F0 nt st a w Fr β)(R2:Rel P T2 w.heap.size (zz9 st a w β) w Fr nt2 st2 a2 w2 Fr2 β2){ds:List Deferred}(hD:Marks T3 base w2 ds):
 Rel P T3 base M w0 F0 nt2 st2 {a2 with defers:=ds} w2 Fr2 β2:=by
 have hv:∀L,zay {a2 with defers:=ds} w2 β2 L=zay a2 w2 β2 L:=fun L=>by cases L<;>rfl
 exact⟨R2.sl,R2.nt,hD,R2.bx,R2.nd,fun L hL=>by rw[hv];exact R2.own L hL,fun L hL L' hL' hne v v' g=>by rw[hv,hv];exact R2.sep L hL L' hL' hne v v' g,fun L hL v g=>by rw[hv];exact R2.out L hL v g,fun q hq=>by rw[hv];exact R2.al q hq,
  fun g hg=>(R2.may g (hg.imp id fun⟨L,hL,v,k1,k2⟩=>⟨L,hL,v,by rw[<-hv];exact k1,k2⟩)).elim (fun h=>.inl (wac R.ge h)) (fun h=>R.may g h),
  fun b hb hM=>by
   obtain⟨k1,k2⟩:=R2.old b (wad hb R.ge) fun h=>(R.may b h).elim (fun h=>by omega) hM
   obtain⟨k3,k4⟩:=R.old b hb hM;exact⟨k1.trans k3,k2.trans k4⟩,
  wac R.ge R2.ge,R2.os.trans R.os,R2.tape.trans R.tape,R2.output.trans R.output⟩
theorem Rel.marks{T2:List Deferred}{nt2:Nat}{st2:St}{a2:Act}{w2:World}{Fr2:Nat->Nat}{β2:List Nat}(R:Rel P T base M w0 F0 nt st a w Fr β)(R2:Rel P T2 w.heap.size (zz9 st a w β) w Fr nt2 st2 a2 w2 Fr2 β2):Marks T base w2 a.defers:=by
 obtain⟨Ds,d1,d2,d3⟩:=R.df;refine⟨Ds,d1,d2,fun D hD=>⟨(d3 D hD).1,?_⟩⟩;have hD2:=(d3 D hD).2;rw[(R2.old D (wan.1 hD2).1 fun hm=>?_).1]
 ·exact hD2
 ·rcases hm with hm|⟨L,hL,u,hu,hub⟩
  ·obtain⟨ob,k1,k2⟩:=R.bx.at hm
   rw[hD2]at k1;cases k1;exact k2 _ rfl
  ·obtain⟨u',p,k1,_,n,cs,_,k2⟩:=R.own L hL
   rw[hu]at k1;cases k1;rcases k2 with rfl|⟨g',cap,cur,e,sz,rfl,k3,_⟩
   ·cases hub
   ·cases hub;rw[hD2]at k3;cases k3
theorem yhx(hm:P.follows .mixedOrders=true)(hyn:P.funcs[yldF]?=none)(hcf:zcj P Γ cf){n:Nat}{qs:List FuncId}{lv1 lv2:List (List Nat)}{f:FuncId}{D:DFun}(hD:z5p P qs lv1 lv2 f=some D){args:List PV}{bx:zae}{oc:List Loc}(hlen:args.length<=D.nt)
 {vs:List Value} (hp:Pre P Γ w Fr β args vs bx oc) {s1:St} (h1:evC cf n D.pre {sl:=zik 0 args,ow:=oc,al:=[],bx}=some (.normal,s1)) {Q:Ending->World->Prop}
 (hbody:∀(fn:Func)(b:Code)(lv':List (List Nat)),zgz P D.g=true->fn.ntmps=D.nt->(∃fn,P.funcs[f]?=some fn/\D.nt=fn.ntmps)->zc2 P qs f D.nt 0 lv2 b=some (D.body,lv')->zaw b=[]->fn.results.toList.mapM (zv0 P)=some D.res->∀(a1:Act)(w1:World)(Fr1:Nat->Nat)(β1:List Nat)(cvs:List Value),
   Rel P [] w.heap.size (zgy w β oc) w Fr D.nt (D.mid s1) a1 w1 Fr1 β1->Le w Fr β w1 Fr1 β1->Rds w1 Fr1 β1 (D.caps.map (·.ev s1.sl)) cvs->(D.mid s1).al=[]->
   b.wpIn (fw none) 0 P (bodyPostM Fence.wide 0 P fn Q) {a1 with defers:={target:=.fn (.func D.g) cvs.toArray,args:=#[]}::a1.defers} w1):Enters P f vs w Q:=by
 unfold z5p at hD;split at hD
 case h_2=>cases hD
 rename_i fn hfn;split at hD
 case h_2=>cases hD
 rename_i a id ops b hbd;split at hD
 case h_2=>cases hD
 rename_i d g first caps ty1 pos1 af1 d' dargs dats ty2 pos2 af2 hops
 split at hD
 case isFalse=>cases hD
 rename_i hcond;obtain⟨hname,hra,hrb,rfl,hfirst,rfl,hdn,hent⟩:=hcond;obtain⟨cs,hcs,hD⟩:=qb hD;obtain⟨⟨pc,lva⟩,hpc,hD⟩:=qb hD;obtain⟨⟨bc,lvb⟩,hbc,hD⟩:=qb hD;obtain⟨rs,hrs,rfl⟩:=qm hD;dsimp only at h1 hbody hlen;refine enters_of (by unfold zgz;rw[hfn];simp only[hname,hbd,wc3,wc4]) (fun e=>by rw[e,hyn]at hfn;cases hfn) ?_;have hS:Good Γ ⟨w.heap.size,zgy w β oc,w,Fr,fn.ntmps,w,Fr,β,[]⟩:=⟨hp.g,fun g hg=>⟨Γ.lt w hp.g g hg,hp.dis g hg⟩⟩;have R0:=z1m (nt:=fn.ntmps) hp hlen;refine callsIn_wide.1 (callsIn_of_wp_marks (n:=0) hfn hbd trivial ?_);refine wpIn_seq (zii (r:=none) hm hcf hS (f:=f) ⟨fn,hfn,rfl⟩ (fun l e=>by cases e) a 0 lv1 pc lva hpc (by rw[hra];intro j q hj;cases hj) _ s1 .normal _ w _ h1 rfl ⟨Fr,β,R0,Le.refl _ _ _⟩ fun a1 w1 hr1=>?_);have hal1:=zqz pc _ _ s1 h1 rfl;show Code.wpIn _ _ _ _ _ _ _;have hops':ops=#[⟨some d,.makeFunc (.func g) first caps,ty1,pos1,af1,none⟩,⟨none,.defer ⟨.value (.tmp d),#[],dats⟩,ty2,pos2,af2,none⟩]:=by
  apply wba;exact hops
 subst hops';refine wpIn_seq (wpIn_region ?_);have hrange:List.range (#[(⟨some d,.makeFunc (.func g) first caps,ty1,pos1,af1,none⟩:Oper),⟨none,.defer ⟨.value (.tmp d),#[],dats⟩,ty2,pos2,af2,none⟩]:Array Oper).size=[0,1]:=rfl;rw[hrange];unfold wpOpsIn;simp only[List.getElem?_toArray,wbl,Region.wanted,if_true];have hsim:zcw P (.makeFunc (.func g) first caps)=some (.clos g cs):=by
  simp only[zcw,hfirst,if_true,hcs,wau]
 refine zvt (cf:=cf) (S:=⟨w.heap.size,zgy w β oc,w,Fr,fn.ntmps,w,Fr,β,[]⟩) (st':=s1.put d (.clo g (cs.map (·.ev s1.sl)))) (c:=.clos g cs) hsim rfl (fun d' e=>by cases e;exact hdn) hr1 fun a2 w2 hr2=>?_
 unfold wpOpsIn;simp only[List.getElem?_toArray,wbl,wbk,Region.wanted,if_true];obtain⟨Fr2,β2,R2,hl2⟩:=hr2;have hclo:=R2.sl d;have elk:look (s1.put d (.clo g (cs.map (·.ev s1.sl)))).sl d=.clo g (cs.map (·.ev s1.sl)):=by simp[St.put,za4]
 rw[elk]at hclo;simp only[Rd]at hclo;obtain⟨cvs,hcv,hcr⟩:=hclo;refine⟨fun _ _=>trivial,?_⟩;have hrun:((Oper.semAt Fence.wide.round a2.eval ⟨none,.defer ⟨.value (.tmp d),#[],dats⟩,ty2,pos2,af2,none⟩).run P w2)=.ok (.defer {target:=.fn (.func g) cvs.toArray,args:=#[]}) w2:=by
  rw[show Fence.wide.round=none from rfl,Oper.semAt_none];show(do let dd <-resolve a2.eval ⟨.value (.tmp d),#[],dats⟩ ty2;pure (Next.defer dd):Sem Next).run P w2=_;have:a2.eval (.tmp d)=.func (.func g) #[] cvs.toArray:=hcv;simp only[resolve,this,Deferred.ofValue,wav,wbg,waw];simp
 rw[hrun];show wpOpsIn _ _ _ _ _ _ _ _;unfold wpOpsIn;exact hbody fn b lvb hent rfl ⟨fn,hfn,rfl⟩ hbc hrb hrs a2 w2 Fr2 β2 cvs R2 hl2 hcr (by simp[DFun.mid,St.put,hal1,za8])
theorem yn6{args:List PV}{vs:List Value}{bx:zae}{oc:List Loc}(hp:Pre P Γ w Fr β args vs bx oc){fn:Func}{res:List (Sum Nat (Nat×Bool×Nat))}(hrs:fn.results.toList.mapM (zv0 P)=some res){st1:St}{a1:Act}{w1:World}{Fr1:Nat->Nat}{β1:List Nat}
 (R1:Rel P [] w.heap.size (zgy w β oc) w Fr fn.ntmps st1 a1 w1 Fr1 β1) (hl1:Le w Fr β w1 Fr1 β1) {T2:List Deferred} {st2:St} {a2:Act} {w2:World} {Fr2:Nat->Nat} {β2:List Nat} (R2:Rel P T2 w1.heap.size (zz9 st1 a1 w1 β1) w1 Fr1 fn.ntmps st2 a2 w2 Fr2 β2) (hl2:Le w1 Fr1 β1 w2 Fr2 β2)
 {r:Ans} (hf:finV res bx.length st2=some r):LeavesInM Fence.wide 0 P fn a2.tmps (fun e w'=>∃v Fr' β',e=.returned v/\Post P w Fr β oc r.1 r.2.1 r.2.2.1 r.2.2.2 v w' Fr' β') a1.defers .returning w2:=by
 have R3:=R1.back R2 (R1.marks R2);exact zlm (S:=⟨w.heap.size,zgy w β oc,w,Fr,fn.ntmps,w,Fr,β,[]⟩) rfl a1.defers {a2 with defers:=a1.defers} w2 rfl ⟨Fr2,β2,R3,hl1.trans hl2⟩ fun a3 w3 hr3 _=>z9q hrs hp.rel.bx.1 hf a3 w3 hr3
theorem yn7(hS:Good Γ S)(R:Rel P S.T S.base S.M S.w0 S.F0 S.nt st a w Fr β):∀g,Γ.D g->g<w.heap.size/\¬zz9 st a w β g:=fun g hg=>by
 obtain⟨h1,h2⟩:=hS.dis g hg;refine⟨wad h1 R.ge,fun h=>?_⟩;rcases R.may g h with h|h
 ·omega
 ·exact h2 h
theorem y05(hm:P.follows .mixedOrders=true)(hyn:P.funcs[yldF]?=none)(hcf:zcj P Γ cf){n:Nat}{qs:List FuncId}{lv1 lv2:List (List Nat)}{f:FuncId}{D:DFun}(hD:z5p P qs lv1 lv2 f=some D)(hnop:y04 P D.g D.caps.length){args:List PV}{bx:zae}{oc:List Loc}{r:Ans}(h:EvD cf n D args bx oc r)
 {vs:List Value} (hp:Pre P Γ w Fr β args vs bx oc):Enters P f vs w fun e w'=>∃v Fr' β',e=.returned v/\Post P w Fr β oc r.1 r.2.1 r.2.2.1 r.2.2.2 v w' Fr' β':=by
 obtain⟨hlen,o,s1,h1,h2⟩:=h;cases o with
 |exit i=>exact h2.elim
 |ret=>
  unfold z5p at hD;split at hD
  case h_2=>cases hD
  rename_i fn hfn;split at hD
  case h_2=>cases hD
  rename_i a id ops b hbd;split at hD
  case h_2=>cases hD
  rename_i d g first caps ty1 pos1 af1 d' dargs dats ty2 pos2 af2 hops
  split at hD
  case isFalse=>cases hD
  rename_i hcond;obtain⟨hname,hra,hrb,rfl,hfirst,rfl,hdn,hent⟩:=hcond;obtain⟨cs,hcs,hD⟩:=qb hD;obtain⟨⟨pc,lva⟩,hpc,hD⟩:=qb hD;obtain⟨⟨bc,lvb⟩,hbc,hD⟩:=qb hD;obtain⟨rs,hrs,rfl⟩:=qm hD;dsimp only at h1 h2 hlen;refine enters_of (by unfold zgz;rw[hfn];simp only[hname,hbd,wc3,wc4]) (fun e=>by rw[e,hyn]at hfn;cases hfn) ?_;have hS:Good Γ ⟨w.heap.size,zgy w β oc,w,Fr,fn.ntmps,w,Fr,β,[]⟩:=⟨hp.g,fun g hg=>⟨Γ.lt w hp.g g hg,hp.dis g hg⟩⟩;have R0:=z1m (nt:=fn.ntmps) hp hlen;refine callsIn_wide.1 (callsIn_of_wp_marks (n:=0) hfn hbd trivial ?_);refine wpIn_seq (zii (r:=none) hm hcf hS (f:=f) ⟨fn,hfn,rfl⟩ (fun l e=>by cases e) a 0 lv1 pc lva hpc (by rw[hra];intro j q hj;cases hj) _ s1 .ret _ w _ h1 rfl ⟨Fr,β,R0,Le.refl _ _ _⟩ fun a1 w1 hr1=>?_);exact zlm rfl _ a1 w1 rfl hr1 fun a2 w2 hr2 _=>z9q hrs hp.rel.bx.1 h2 a2 w2 hr2
 |normal=>
  obtain⟨o,st2,h3,hno,hf⟩:=h2;refine yhx hm hyn hcf hD hlen hp h1 fun fn b lv' hent hnt hfn hbc hrb hrs a1 w1 Fr1 β1 cvs R1 hl1 hcr hal=>?_
  have hS:Good Γ ⟨w.heap.size,zgy w β oc,w,Fr,D.nt,w,Fr,β,[]⟩:=⟨hp.g,fun g hg=>⟨Γ.lt w hp.g g hg,hp.dis g hg⟩⟩;have hS2:Good Γ ⟨w1.heap.size,zz9 (D.mid s1) a1 w1 β1,w1,Fr1,D.nt,w1,Fr1,β1,{target:=.fn (.func D.g) cvs.toArray,args:=#[]}::a1.defers⟩:=⟨hS.at R1,yn7 hS R1⟩;have Rb:=R1.rebase ({target:=.fn (.func D.g) cvs.toArray,args:=#[]}::a1.defers);refine zii (r:=none) hm hcf hS2 (f:=f) hfn (fun l e=>by cases e) b 0 lv2 D.body lv' hbc (by rw[hrb];intro j q hj;cases hj) _ st2 o _ w1 _ h3 hal ⟨Fr1,β1,Rb,Le.refl _ _ _⟩ fun a2 w2 hr2=>?_
  have key:LeavesInM Fence.wide 0 P fn a2.tmps (fun e w'=>∃v Fr' β',e=.returned v/\Post P w Fr β oc r.1 r.2.1 r.2.2.1 r.2.2.2 v w' Fr' β') a2.defers .returning w2:=by
   have hr0:=hr2;obtain⟨Fr2,β2,R2,hl2⟩:=hr0;obtain⟨Ds,d1,d2,d3⟩:=R2.df;rw[d2];refine zsh (by simp) Ds a2 w2 d2 hr2 fun a3 w3 hr3 ht _=>?_
   obtain⟨Fr3,β3,R3,hl3⟩:=hr3;dsimp only at R3 hl3;unfold LeavesInM;refine⟨by simp,.inr ⟨(fun h=>by cases h),.func D.g,cvs.toArray,D.g,cvs.toArray,rfl,?_,fun _ _=>trivial,?_⟩⟩
   ·rw[<-zvu (P:=P) (w:=w3) hent (args:=cvs.toArray)]
    simp only[invoke];congr 2;apply wba;simp
   ·refine(hnop cvs w3 (by have:=hcr.length;simpa using this)).mono ?_
    rintro e u' w' ⟨⟨v,rfl⟩,rfl,rfl⟩;rw[<-ht];exact yn6 (fn:=fn) hp hrs (by rw[hnt];exact R1) hl1 (by rw[hnt];exact R3) hl3 hf
  cases o with
  |exit i=>exact absurd rfl (hno i)
  |normal=>exact key
  |ret=>exact key
end
end Nun
namespace Nun
open Go Go.RowKit
section
variable {cf:Callee} {pf:zjv} {kl:List Nat} {n k:Nat} {st st':St} {f:FuncId} {q:ThrS} {sl:List (Nat × PV)} {ow:List Loc} {al:List (Nat × Loc)} {bx:zae}
variable {code:FuncId→Option CFun} {n0:Nat} {plib:zjv}
end
end Nun
end

/- Texts of this proof, merged. -/
import Derived.Test.YtglaihdcndcmkaaGreatDoorSg
import Derived.KernelRfl
import Derived.Test.YtglaihdcndcmkaaGreatDoorRows
import Derived.WalkKit
import Derived.BigQuiet
import Derived.Lib.OthersKept
import Derived.Lib.Index
import Derived.Lib.IndexMore
import Derived.Lib.Strings
import Derived.RegionTactic
import Derived.ChangeAlike
import Derived.Lib.SplitLaws
import Derived.LaidMore
import Derived.ProofKit
import Derived.OpenShut
import Derived.Stop.Joined
import Derived.Handed
import Derived.HandedShaped
import Derived.Lib.LaidU8
import Derived.Shelf.Vars
import Derived.Test.YtglaihdcndcmkaaGreatDoorTie
import Derived.Test.YtglaihdcndcmkaaGreatDoorCards
import Derived.SevenTiedAt
set_option linter.all false
open Go ya Go.Proofs Go.RowKit Go.Proofs.YtglaihdcndcmkaaGreatDoor
set_option maxHeartbeats 4000000
namespace ya
theorem mE(enc:ba->ba):∀(l R:List Nat),(∀r∈l,Ob r=true)->∃g a,Lg enc (canon R) l=(g::a).map (fun G=>Gc enc (canon G))/\(g::a).flatten=R++l
 |[],R,_=>⟨R,[],rfl,ea⟩
 |r::l,R,h=>by
  have hr:=h r ea;have e:Ka r=canon [r]:=by simp[canon]
  rw[Lg,e];split
  ·obtain⟨g,a,b,c⟩:=mE enc l [r] fun x d=>h x (by simp[d])
   exact⟨R,g::a,by rw[b];rfl,by rw[List.flatten_cons,c];rfl⟩
  ·obtain⟨g,a,b,c⟩:=mE enc l (R++[r]) fun x d=>h x (by simp[d])
   rw[Ox]at b;exact⟨g,a,b,by rw[c];simp⟩
def V0{g:ba}(h:Sh g=true):rf (Gc Na g)=(g,true):=by
 have a:Kd.isPrefixOf (Gc Na g)=true:=by
  rw[tl];unfold Gc;rw[vc];exact List.prefix_append _ _
 have b:(Gc Na g).drop 10=Na g++[63,61]:=by unfold Gc;rw[vc];exact List.drop_left' rfl
 have c:([63,61]:ba).isSuffixOf (Na g++[63,61])=true:=by rw[List.isSuffixOf_iff_suffix];exact List.suffix_append _ _
 have d:(Na g++[63,61]).take ((Na g++[63,61]).length - 2)=Na g:=List.take_left' ea;unfold rf;rw[a,b,c,d,N0 _ g (Aa _)];simp[h]
def AO{w:ba}(h:([61,63]:ba).isPrefixOf w=false):rf w=(w,false):=by
 have:Kd.isPrefixOf w=false:=by
  rw[vo]at h⊢;exact fun k=>h (tl.2 (List.IsPrefix.trans ⟨[85,84,70,45,56,63,66,63],rfl⟩ (tl.1 k)))
 unfold rf;rw[this];rfl
theorem rD(c:UInt8):∀(l p:ba)(ps:List ba),db c l=p::ps->l=p++ps.flatMap (c::·)/\∀x∈p::ps,c∉x
 |[],p,ps,h=>by cases h;simp
 |a::l,p,ps,h=>by
  obtain⟨n,i,e⟩:=fy c l;obtain⟨j,d⟩:=rD c l n i e;unfold db at h;rw[e]at h;split at h
  ·rename_i g
   cases h;refine⟨by rw[g,j];simp,fun x b=>?_⟩;rcases wb.1 b with rfl|b
   ·simp
   ·exact d x b
  ·rename_i g
   dsimp only at h;cases h;refine⟨by rw[j];simp,fun x b=>?_⟩;rcases wb.1 b with rfl|b
   ·have:=d n ea
    simp only[wb,not_or];exact⟨fun k=>g k.symm,this⟩
   ·exact d x (by simp[b])
theorem ZP(s:ba):∀(l p:ba)(ps:List ba)(k long n:Nat),s.drop k=l->Kg s k long l=some n->db 32 l=p::ps->((0<n->0<long+p.length)/\([61,63]:ba).isPrefixOf p=false)/\∀w∈ps,(0<n->w≠[])/\([61,63]:ba).isPrefixOf w=false
 |[],p,ps,k,long,n,g,h,b=>by
  cases b;rw[Kg]at h;cases h;exact⟨⟨fun h=>by simpa using h,rfl⟩,ea⟩
 |c::t,p,ps,k,long,n,g,h,b=>by
  rw[Kg]at h;split at h
  ·cases h
  rename_i hs;simp only[Sp,decide_eq_true_eq,not_or,bn,bc,not_and]at hs;obtain⟨⟨z,_,_,o⟩,_⟩:=hs;have q:s.drop (k+1)=t:=by rw[<-yd,g];rfl
  have A:k<=s.length:=by
   rcases Mh s.length k with h|h
   ·rw[Ej aa]at g;cases g
   ·exact h
  have u:([61,63]:ba).isPrefixOf (c::t)=false:=by
   rw[<-g];unfold Tb at o;rw[decide_eq_true A,od]at o;exact vo.2 o
  obtain⟨x,r,e⟩:=fy 32 t;obtain⟨⟨i,B⟩,v⟩:=ZP s t x r (k+1) _ n q h e;unfold Bh at i;unfold db at b;rw[e]at b;split at b
  ·rename_i d
   cases b;have a:c.toNat=32:=by rw[d];rfl
   rw[if_pos a]at i;refine⟨⟨fun _=>?_,rfl⟩,fun w hw=>?_⟩
   ·have:=z a;simp only[Ca];omega
   ·rcases wb.1 hw with rfl|hw
    ·exact⟨fun j y=>by have:=i j;rw[y]at this;simp at this,B⟩
    ·exact v w hw
  ·rename_i d
   dsimp only at b;cases b;have a:c.toNat≠32:=fun k=>d (Xb.1 k)
   rw[if_neg a]at i;refine⟨⟨fun j=>by have:=i j;simp only[ua];omega,?_⟩,v⟩;rw[vo]at u⊢;intro k;rw[tl]at k;apply u;rw[tl];refine k.trans ?_;rw[(rD 32 t x _ e).1];exact⟨_,rfl⟩
def zcC:∀c:UInt8,zg c=true->c≠32->nc c=false:=Fb
def RV{w:ba}(h:w.all zg=true)(b:(32:UInt8)∉w):∀c∈w,nc c=false:=fun c a=>zcC c (Bg.1 h c a) fun e=>b (e▸a)
def S1:∀l:List UInt8,(32:UInt8)∉Na l:=by
 have d:∀n,n<64->lc n≠32:=fun n h=>(by decide+kernel:∀n:Fin 64,lc n.1≠32) ⟨n,h⟩
 have e:∀l:List UInt8,(32:UInt8)∉ae l:=fun l h=>by
  unfold ae at h;simp only[wb,Nt,or_false]at h;have m:∀x,x % 64<64:=fun x=>Nat.mod_lt _ ha
  rcases h with h|h|h|h
  ·exact d _ (m _) h.symm
  ·exact d _ (m _) h.symm
  ·split at h
   ·exact absurd h ha
   ·exact d _ (m _) h.symm
  ·split at h
   ·exact absurd h ha
   ·exact d _ (m _) h.symm
 intro l
 induction l using Na.induct with
 |case1=>simp[Na]
 |case2 a=>exact e _
 |case3 a b=>exact e _
 |case4 a b c l g=>rw[Na,Ue,not_or];exact⟨e _,g⟩
def TH(v:ba)(h:Fi v=true\/Cf v=v):xj rf (32::trimB (be (Ad Na v)))=v:=by
 have a:=Sw v;unfold Ad at a⊢;by_cases l:v=[]
 ·rw[if_pos l,l];exact zbP _
 rw[if_neg l]at a⊢;by_cases c:Fi v=true
 ·rw[if_pos c]at a⊢
  unfold Fi at c;rw[decide_eq_false l,Ug]at c;cases d:Kg v 0 0 v with
  |none=>rw[d]at c;simp at c
  |some n=>
   rw[d]at c;have i:0<n:=by simpa using c
   obtain⟨p,ps,e⟩:=fy 32 v;obtain⟨⟨o,q⟩,j⟩:=ZP v v p ps 0 0 n rfl d e;obtain⟨t,u⟩:=rD 32 v p ps e;rw[e]at a⊢;rw[zbQ rf p ps fun x b=>⟨?_,RV (a x b).2 (u x b),?_⟩]
   ·exact t.symm
   ·rcases wb.1 b with rfl|b
    ·intro k;have:=o i;rw[k]at this;simp at this
    ·exact(j x b).1 i
   ·rcases wb.1 b with rfl|b
    ·exact AO q
    ·exact AO (j x b).2
 ·rw[if_neg c]at a⊢
  have y:=h.resolve_left c;obtain⟨rs,hr,q⟩:=uN v;rw[y]at q;have i:Gd v=rs:=by rw[q];exact bH hr
  rw[i]at a⊢;obtain⟨g,j,t,o⟩:=mE Na rs [] hr;have u:canon []=[]:=rfl;rw[u]at t;rw[t]at a⊢;have w:∀G∈g::j,∀r∈G,Ob r=true:=fun G d r b=>hr r (by
   rw[Ra]at o;rw[<-o];exact List.mem_flatten.2 ⟨G,d,b⟩)
  have e1:(g::j).map (fun G=>Gc Na (canon G))=(((Gc Na (canon g),canon g)::j.map fun G=>(Gc Na (canon G),canon G)):List (ba×ba)).map (·.1):=by
   simp[List.map_map,Function.comp_def]
  rw[e1,zbO]
  ·rw[q]
   rw[Ra]at o;rw[<-o,List.flatten_cons,Ox,pN,List.flatMap_map]
  ·intro x b
   obtain⟨G,d,rfl⟩:∃G,G∈g::j/\x=(Gc Na (canon G),canon G):=by
    rcases wb.1 b with rfl|b
    ·exact⟨g,ea,rfl⟩
    ·obtain⟨G,d,rfl⟩:=si.1 b;exact⟨G,by simp[d],rfl⟩
   refine⟨by simp[Gc,Kd],?_,V0 (J5 (w G d))⟩;have b:=a (Gc Na (canon G)) (si.2 ⟨G,d,rfl⟩);refine RV b.2 ?_;unfold Gc;simp only[Ue,not_or];exact⟨⟨ha,S1 _⟩,ha⟩
theorem LQ{c:UInt8}:∀r:ba,c∉r->Lib.index r [c]=-1
 |[],_=>rfl
 |a::r,h=>by
  simp only[wb,not_or]at h;have b:([c]:ba).isPrefixOf (a::r)=false:=by simp[List.isPrefixOf,h.1]
  unfold Lib.index;rw[b,LQ r h.2];rfl
def zb9{c d:UInt8}{r:ba}(h:c∉r):Lib.replaceAll r [c] [d]=r:=by
 have a:=LQ r h;unfold Lib.replaceAll Lib.replace;split
 ·rfl
 ·cases Lib.replaceNum r [c] (-1)with
  |zero=>rfl
  |succ k=>unfold Lib.replaceK;rw[a];rfl
def SH(v:ba)(h:∀c∈v,c≠13/\c≠10/\c≠9):Zn (Ci v)=([88],xj rf (32::v),0):=by
 have b:([13,10]:ba).isSuffixOf (Ci v)=true:=by rw[List.isSuffixOf_iff_suffix];exact List.suffix_append _ _
 have d:(Ci v).take ((Ci v).length - 2)=[88,58,32]++v:=by
  unfold Ci;exact List.take_left' ea
 have e:Ln ([88,58,32]++v)=some ([88,58,32]++v):=d9 _ fun c a=>by
  rcases Ue.1 a with a|a
  ·simp only[wb,Nt,or_false]at a
   rcases a with rfl|rfl|rfl<;>decide
  ·exact⟨(h c a).1,(h c a).2.1⟩
 have g:Lib.cut ([88,58,32]++v) [58]=([88],32::v,true):=by
  rw[pD,show th 58 ([88,58,32]++v)=some 1 from PC [88] (32::v) ha];rfl
 unfold Zn;rw[if_pos b,d,e];dsimp only;rw[g];have i:Hf [88]=true:=Fb
 dsimp only;rw[i,zb9 (by
  simp only[wb,not_or];exact⟨ha,fun k=>(h 9 k).2.2 rfl⟩)]
 rfl
def RR{p:UInt8->Bool}{c:UInt8}:∀{l:ba},c∈l.dropWhile p->c∈l:=fun h=>(List.dropWhile_suffix p).subset h
def B9{l:ba}{c:UInt8}(h:c∈trimB l):c∈l:=by
 unfold trimB pk at h;rw[List.mem_reverse]at h;have:=RR h;rw[List.mem_reverse]at this;exact RR this
def OI(v:ba):∀c∈Qc v,c≠13/\c≠10/\c≠9:=by
 intro c a;have a:=B9 a;have hs:∀c:UInt8,zg c=true->c≠13/\c≠10/\c≠9:=Fb
 apply hs;unfold vf be at a;obtain⟨w,b,a⟩:=List.mem_flatMap.1 a;rcases wb.1 a with rfl|a
 ·decide
 ·exact Bg.1 (Sw v w b).2 c a
theorem zeg{s w:ba}:∀(k:Nat)(l:ba),s.drop k=l->k<=s.length->Og l w=false->Tb s w k=false\/l=[]
 |k,[],_,_,_=>.inr rfl
 |k,c::l,h,a,hs=>by
  rw[Og,bB]at hs;unfold Tb;rw[h,hs.1,Zh];exact .inl rfl
theorem YP(s:ba):∀(l:ba)(k:Nat),s.drop k=l->l.all rj=true->Og l [61,63]=false->k+l.length<=60->Kg s k k l=some (k+l.length)
 |[],k,_,_,_,_=>by rw[Kg];rfl
 |c::l,k,h,a,hs,i=>by
  have g:k<=s.length:=by
   rcases Mh s.length k with b|b
   ·rw[Ej aa]at h;cases h
   ·exact b
  have d:=(zeg k _ h g hs).resolve_right ea;rw[zk,bc]at a;have e:∀c:UInt8,rj c=true->32<c.toNat/\c.toNat<=126:=Fb
  obtain⟨c1,c2⟩:=e c a.1;rw[Og,bB]at hs;simp only[ua]at i⊢;have e1:bn s k c k=false:=by
   unfold bn;rw[d,decide_eq_false (by omega:¬c.toNat=32),decide_eq_false (by omega:¬c.toNat<32),decide_eq_false (by omega:¬126<c.toNat)];rfl
  have e2:Bh c k=k+1:=by unfold Bh;rw[if_neg aa]
  rw[Kg,e1,e2,decide_eq_false aa,Bool.or_self,if_neg ha,YP s l (k+1) (by rw[<-yd,h];rfl) a.2 hs.2 aa];congr 1;omega
def xJ{s:ba}(h:Gk s=true):Fi s=true:=by
 unfold Gk at h;simp only[bc,Fw,bB,decide_eq_false_iff_not]at h;obtain⟨⟨d,e,_,_,a⟩,b,_⟩:=h;have c:=YP s s 0 rfl b a aa;unfold Fi;rw[c];have:0<0+s.length:=aa
 simp only[decide_eq_true this,nn]
def lY{m:kc}(h:Bf m=0):xj rf (32::Qc m.fr)=m.fr/\xj rf (32::Qc m.to)=m.to/\xj rf (32::Qc m.su)=m.su:=by
 unfold Bf at h;split at h
 ·cases h
 ·rename_i a
  rw[Bool.and_eq_false_iff,not_or,Kw,Kw]at a;split at h
  ·rename_i b
   exact⟨TH _ (.inl (xJ a.1)),TH _ (.inl (xJ a.2)),TH _ (.inr b.1)⟩
  ·cases h
def zbT{m:kc}(h:Bf m=0):Zn (Ci (Qc m.fr))=([88],m.fr,0)/\Zn (Ci (Qc m.to))=([88],m.to,0)/\Zn (Ci (Qc m.su))=([88],m.su,0):=by
 obtain⟨a,b,c⟩:=lY h;exact⟨by rw[SH _ (OI _),a],by rw[SH _ (OI _),b],by rw[SH _ (OI _),c]⟩
def Jg:List kf->List PV
 |[]=>[]
 |(a,b)::l=>.flat (.string (S a))::.flat (.string (S b))::Jg l
theorem Lq:∀F,Ib (Jg F)=true
 |[]=>rfl
 |(a,b)::l=>by show Ib (.flat (.string (S a))::.flat (.string (S b))::Jg l)=true;simp only[Ib,PV.pj,Lq l,od]
theorem gp{n}:∀F,Ia n (Jg F)=true
 |[]=>rfl
 |(a,b)::l=>by show Ia n (.flat (.string (S a))::.flat (.string (S b))::Jg l)=true;simp only[Ia,PV.low,gp l,od]
variable {lib:Callee}
def lJ(lib:Callee):Prop:=∀s:ba,s.length<=1000000->lib 79 [.flat (.string (S s))] [] []=some ([.flat (.string (S (ie s)))],false,[],[])
def gW(lib:Callee):Prop:=∀s t:ba,s.length<=1000000->t.length<=1000000->lib 140 [.flat (.string (S s)),.flat (.string (S t))] [] []=some ([.flat (.bool (ie s==ie t))],false,[],[])
def EP(H:lJ lib)(s)(h:s.length<=1000000):da code lib 79 [.flat (.string (S s))] [] []=some ([.flat (.string (S (ie s)))],false,[],[]):=Ef ha ca (H s h)
def ir(e:Nat):da code lib 76 [.flat (.bool true),.flat (.int .i64 (e:Nat))] [] []=some ([],false,[],[]):=by
 refine la XY (qa rfl) ?_;exact sa
def hW(lib:Callee):Prop:=∀s:ba,lib 269 [.flat (.string (S s)),.flat (.string (S [32,9]))] [] []=some ([.flat (.string (S (s.dropWhile nc)))],false,[],[])
structure LibK (lib:Callee):Prop where
 idx:We lib
 wV:hW lib
 alike:gW lib
 fold:lJ lib
 cut:Wt lib
theorem MD{l l':Callee}(h:Sub l l'):∀n,Sub (Df code l n) (Df code l' n)
 |0=>fun f a b o r h=>by cases h
 |n+1=>fun f a b o r hs=>by
  rw[Ju]at hs⊢;cases d:code f with
  |none=>
   rw[d]at hs;dsimp only at hs⊢;split at hs
   ·rename_i c;rw[if_pos c];exact lP (MD h n) (Aa _) hs
   ·rename_i c;rw[if_neg c];exact h _ _ _ _ _ hs
  |some k=>
   rw[d]at hs;exact KD (MD h n) (Aa _) hs
def fz:Callee:=fun f args bx oc=>match args,bx,oc with
 |[.flat (.string s)],[],[]=>if f=79/\s.size<=1000 then some ([.flat (.string (S (ie s.data.toList)))],false,[],[])else none
 |[.flat (.string s),.flat (.int .u8 c)],[],[]=>if f=96/\s.size<=1000/\0<=c/\c<256 then some ([.flat (.int .i64 (match Cc c.toNat.toUInt8 s.data.toList with|some i=>(i:Int)|none=>-1))],false,[],[])else none
 |[.flat (.string s),.flat (.string t)],[],[]=>if f=269/\t.data.toList=[32,9]then some ([.flat (.string (S (s.data.toList.dropWhile nc)))],false,[],[])
  else if f=140/\s.size<=1000/\t.size<=1000 then some ([.flat (.bool (ie s.data.toList==ie t.data.toList))],false,[],[])
  else if f=39/\s.size<=1000 then some ([.flat (.string (S (Lib.cut s.data.toList t.data.toList).1)),.flat (.string (S (Lib.cut s.data.toList t.data.toList).2.1)),.flat (.bool (Lib.cut s.data.toList t.data.toList).2.2)],false,[],[])else none
 |_,_,_=>none
def yl(s:ByteArray):S s.data.toList=s:=by simp[S]
def py(s:ByteArray):s.data.toList.length=s.size:=rfl
def Y6(H:LibK lib):Sub fz lib:=fun f a b o r h=>by
 unfold fz at h;split at h
 ·rename_i s
  split at h
  ·rename_i d
   obtain⟨rfl,e⟩:=d;cases h;have k:=H.fold s.data.toList (by rw[py];omega);rw[yl]at k;exact k
  ·cases h
 ·rename_i s c
  split at h
  ·rename_i d
   obtain⟨rfl,e,g,i⟩:=d;cases h;have j:s.data.toList.length=s.size:=rfl;have k:=H.idx s.data.toList c.toNat.toUInt8 aa;have e2:(((c.toNat.toUInt8).toNat:Nat):Int)=c:=by
    rw[Nat.toUInt8,UInt8.toNat_ofNat'];omega
   rw[yl,e2]at k;exact k
  ·cases h
 ·rename_i s t
  split at h
  ·rename_i d
   obtain⟨rfl,e⟩:=d;cases h;have k:=H.wV s.data.toList;rw[yl,<-e,yl]at k;exact k
  ·split at h
   ·rename_i d
    obtain⟨rfl,e,g⟩:=d;cases h;have k:=H.alike s.data.toList t.data.toList (by rw[py];omega) (by rw[py];omega);rw[yl,yl]at k;exact k
   ·split at h
    ·rename_i d
     obtain⟨rfl,e⟩:=d;cases h;have k:=H.cut s.data.toList t.data.toList (by rw[py];omega);rw[yl,yl]at k;exact k
    ·cases h
 ·cases h
def ke(H:LibK lib){f:FuncId}{args:List PV}{bx:Oa}{oc:List Loc}{r:Fe}(h:Df So fz 1000 f args bx oc=some r):da code lib f args bx oc=some r:=Im.2 ⟨1000,by rw[is];exact MD (Y6 H) 1000 _ _ _ _ _ h⟩
abbrev yc(s:ba):Nat×List PV:=(261,[.flat (.string (S s))])
abbrev kd(a b:ba):Nat×List PV:=(180,[.flat (.string (S a)),.flat (.string (S b))])
def zav{r1 r2 r3 r4 r5 k v:ba}(b:v≠[])
 (e1:da code lib 207 [.ptr 0 0] [yc r1,kd [] []] []=some ([],false,[yc r2,kd [] []],[]))
 (e2:da code lib 208 [.ptr 0 0] [yc r2,kd [] []] []=some ([.flat (.string (S k))],false,[yc r3,kd [] []],[]))
 (e3:da code lib 137 [.flat (.string (S k))] [] []=some ([.flat (.bool true)],false,[],[]))
 (e4:da code lib 209 [.ptr 0 0,.flat (.int .u8 61)] [yc r3,kd [] [],kd k []] []=some ([.flat (.bool true)],false,[yc r4,kd [] [],kd k []],[]))
 (e5:da code lib 209 [.ptr 0 0,.flat (.int .u8 34)] [yc r4,kd [] [],kd k []] []=some ([.flat (.bool false)],false,[yc r4,kd [] [],kd k []],[]))
 (e6:da code lib 208 [.ptr 0 0] [yc r4,kd [] [],kd k []] []=some ([.flat (.string (S v))],false,[yc r5,kd [] [],kd k []],[])):
 da code lib 210 [.ptr 0 0] [yc r1] []=some ([.agg [.flat (.string (S k)),.flat (.string (S v))],.flat (.bool true)],false,[yc r5],[]):=by
 refine la CN (qa rfl) ?_;have a:=eq_false b;simp(maxSteps:=999999) (disch:=first|assumption|omega) only[go_sem,simprocAttr,au,e1,e2,e3,e4,e5,e6,a]
def zaw{r1 r2 r3 r4 r5 a k v:ba}
 (e1:da code lib 207 [.ptr 0 0] [yc r1,kd [] []] []=some ([],false,[yc r2,kd [] []],[]))
 (e2:da code lib 208 [.ptr 0 0] [yc r2,kd [] []] []=some ([.flat (.string (S k))],false,[yc r3,kd [] []],[]))
 (e3:da code lib 137 [.flat (.string (S k))] [] []=some ([.flat (.bool true)],false,[],[]))
 (e4:da code lib 209 [.ptr 0 0,.flat (.int .u8 61)] [yc r3,kd [] [],kd k []] []=some ([.flat (.bool true)],false,[yc r4,kd [] [],kd k []],[]))
 (e5:da code lib 209 [.ptr 0 0,.flat (.int .u8 34)] [yc r4,kd [] [],kd k []] []=some ([.flat (.bool true)],false,[yc r5,kd [] [],kd k []],[]))
 (e6:da code lib 270 [.ptr 0 0] [yc r5,kd [] [],kd k []] []=some ([.flat (.string (S v)),.flat (.bool true)],false,[yc a,kd [] [],kd k []],[])):
 da code lib 210 [.ptr 0 0] [yc r1] []=some ([.agg [.flat (.string (S k)),.flat (.string (S v))],.flat (.bool true)],false,[yc a],[]):=by
 refine la CN (qa rfl) ?_;simp(maxSteps:=999999) (disch:=first|assumption|omega) only[go_sem,simprocAttr,au,e1,e2,e3,e4,e5,e6]
def nT{s r0 r1 m k v:ba}(h:m≠[])(e:r0≠[])
 (e1:da code lib 207 [.ptr 0 0] [yc s] []=some ([],false,[yc s],[]))
 (e2:da code lib 208 [.ptr 0 0] [yc s] []=some ([.flat (.string (S m))],false,[yc r0],[]))
 (e3:da code lib 207 [.ptr 0 0] [yc r0] []=some ([],false,[yc r0],[]))
 (e4:da code lib 209 [.ptr 0 0,.flat (.int .u8 59)] [yc r0] []=some ([.flat (.bool true)],false,[yc r1],[]))
 (e5:da code lib 210 [.ptr 0 0] [yc r1] []=some ([.agg [.flat (.string (S k)),.flat (.string (S v))],.flat (.bool true)],false,[yc []],[]))
 (e6:da code lib 211 [.ia 0 [],.ib 212 [.ptr 1 0]] [yc [],kd k v] []=some ([.flat (.bool false)],false,[yc [],kd k v],[]))
 (c:da code lib 207 [.ptr 0 0] [yc []] []=some ([],false,[yc []],[]))
 (d:da code lib 207 [.ptr 0 0] [yc [],kd k v] []=some ([],false,[yc [],kd k v],[])):
 da code lib 139 [.flat (.string (S s))] [] []=some ([.flat (.string (S m)),.ia 1 [.flat (.string (S k)),.flat (.string (S v))],.flat (.int .i64 0)],false,[],[]):=by
 refine la IY (qa rfl) ?_;have b:=eq_false h;have a:=eq_false e;have g:(1<=za)=True:=eq_true He;simp(maxSteps:=999999) (disch:=first|assumption|omega) only[go_sem,simprocAttr,au,e1,e2,e3,e4,e5,e6,c,d,b,a,g,Rc,ec,pc,Ec,z_]
abbrev Iv(m k v:ba):Fe:=([.flat (.string (S m)),.ia 1 [.flat (.string (S k)),.flat (.string (S v))],.flat (.int .i64 0)],false,[],[])
def mT(H:LibK lib){s m:ba}(a:m≠[])
 (e1:da code lib 207 [.ptr 0 0] [yc s] []=some ([],false,[yc s],[]))
 (e2:da code lib 208 [.ptr 0 0] [yc s] []=some ([.flat (.string (S m))],false,[yc [59,32,99,104,97,114,115,101,116,61,117,116,102,45,56]],[])):
 da code lib 139 [.flat (.string (S s))] [] []=some (Iv m [99,104,97,114,115,101,116] [117,116,102,45,56]):=
 nT (r1:=[32,99,104,97,114,115,101,116,61,117,116,102,45,56]) a ha e1 e2 (ke H ca) (ke H ca) (zav (r2:=[99,104,97,114,115,101,116,61,117,116,102,45,56]) (r3:=[61,117,116,102,45,56]) (r4:=[117,116,102,45,56]) ha (ke H ca) (ke H ca) (ke H ca) (ke H ca) (ke H ca) (ke H ca)) (ke H ca) (ke H ca) (ke H ca)
def zau(H:LibK lib):da code lib 139 [.flat (.string (S Qn))] [] []=some (Iv Wk [98,111,117,110,100,97,114,121] Zg):=
 nT (r0:=[59,32,98,111,117,110,100,97,114,121,61,34,61,95,110,117,110,99,105,111,34]) (r1:=[32,98,111,117,110,100,97,114,121,61,34,61,95,110,117,110,99,105,111,34]) ha ha (ke H ca) (ke H ca) (ke H ca) (ke H ca) (zaw (r2:=[98,111,117,110,100,97,114,121,61,34,61,95,110,117,110,99,105,111,34]) (r3:=[61,34,61,95,110,117,110,99,105,111,34]) (r4:=[34,61,95,110,117,110,99,105,111,34]) (r5:=[61,95,110,117,110,99,105,111,34]) (ke H ca) (ke H ca) (ke H ca) (ke H ca) (ke H ca) (ke H ca)) (ke H ca) (ke H ca) (ke H ca)
noncomputable def kF:Callee:=fun f args bx oc=>if f=139 then(match args,bx,oc with
 |[.flat (.string s)],[],[]=>if s.data.toList=xw Nc then some (Iv (ko Nc) [99,104,97,114,115,101,116] [117,116,102,45,56])else if s.data.toList=xw Uc then some (Iv (ko Uc) [99,104,97,114,115,101,116] [117,116,102,45,56])else if s.data.toList=Qn then some (Iv Wk [98,111,117,110,100,97,114,121] Zg)else none
 |_,_,_=>none)else Df So fz 1000 f args bx oc
def B6(H:LibK lib):Sub kF (da code lib):=fun f a b o r h=>by
 unfold kF at h;split at h
 ·rename_i hf
  subst hf;split at h
  ·rename_i s
   rw[<-yl s];split at h
   ·rename_i e;cases h;rw[e];exact mT H ha (ke H ca) (ke H ca)
   split at h
   ·rename_i e;cases h;rw[e];exact mT H ha (ke H ca) (ke H ca)
   split at h
   ·rename_i e;cases h;rw[e];exact zau H
   ·cases h
  ·cases h
 ·exact ke H h
def Yq(H:LibK lib){f:FuncId}{args:List PV}{r:Fe}(h:(So f).bind (fun k=>En kF 1000 k args [] [])=some r):da code lib f args [] []=some r:=by
 obtain⟨k,a,b⟩:=qb h;exact kP (n:=1000) (by rw[is];exact a) (KD (B6 H) (Aa _) b)
def tA:ba:=[99,111,110,116,101,110,116,45,116,114,97,110,115,102,101,114,45,101,110,99,111,100,105,110,103]
def m8(H:LibK lib){k:ba}(a:k=Nc\/k=Uc):da code lib 77 [.ia 2 (Jg (li k))] [] []=some ([.flat (.string (S (ko k))),.flat (.string (S []))],false,[],[]):=by
 rcases a with rfl|rfl
 ·exact Yq H ca
 ·exact Yq H ca
def l8(H:LibK lib)(a b c:ba):da code lib 77 [.ia 5 (Jg (Pm a b c))] [] []=some ([.flat (.string (S Wk)),.flat (.string (S Zg))],false,[],[]):=Yq H ca
def A0(H:LibK lib){k:ba}(a:k=Nc\/k=Uc):da code lib 78 [.ia 2 (Jg (li k)),.flat (.string (S tA))] [] []=some ([.flat (.string (S il)),.flat (.int .i64 1)],false,[],[]):=by
 rcases a with rfl|rfl
 ·exact Yq H ca
 ·exact Yq H ca
def y0(H:LibK lib)(a b c:ba):da code lib 78 [.ia 5 (Jg (Pm a b c)),.flat (.string (S tA))] [] []=some ([.flat (.string (S [])),.flat (.int .i64 0)],false,[],[]):=Yq H ca
def x9(H:LibK lib):da code lib 82 [.flat (.string (S Zg))] [] []=some ([.flat (.bool true)],false,[],[]):=Yq H ca
def eA(H:sc lib)(s p)(hs:s.length<=1000000000)(a:p.length<=1000000000):da code lib 80 [.flat (.string (S s)),.flat (.string (S p))] [] []=some ([.flat (.bool (p.isPrefixOf s))],false,[],[]):=Ef ha ca (H s p hs a)
def vn(s line:ba)(q:List ba×Nat×Nat):(List ba×Nat×Nat) ⊕ Option (List ba):=
 if Lib.index (s.drop q.2.2) line=-1 then .inr none else
 let at_:=q.2.2+(Lib.index (s.drop q.2.2) line).toNat
 let a:=s.drop (at_+line.length)
 if([45,45,13,10]:ba).isPrefixOf a then(if a=[45,45,13,10]then .inr (some (q.1++[(s.take at_).drop q.2.1]))else .inr none)
 else if([13,10]:ba).isPrefixOf a then .inl (q.1++[(s.take at_).drop q.2.1],at_+line.length+2,at_+line.length+2)
 else .inl (q.1,q.2.1,at_+1)
def dc(mark:ba):ba:=[13,10,45,45]++mark
def hu(s mark:ba):Option (List ba):=
 if(dc mark++[13,10]).isPrefixOf ([13,10]++s)then Mb (vn (([13,10]++s).drop (dc mark++[13,10]).length) (dc mark)) none (s.length+1) ([],0,0)else none
def L4{s w:ba}{n:Nat}(h:Lib.index s w≠-1):(Lib.index s w).toNat+w.length<=s.length/\Lib.index s w=((Lib.index s w).toNat:Int):=by
 have a:=Lib.index_ge s w;have b:=Lib.index_room s w aa;omega
theorem jX(T:aq lib)(R:Xi lib)(N:sc lib)(s mark)(out)(hs:s.length<=100000000)(hmZ:mark.length<=1000000)(h:hu s mark=some out)(BX:List ba->Oa)(oc)(b P Q nb)
 (U:∀a,(BX a)[P]?=some (9,[.flat (.string (S mark))])) (V:∀a,(BX a)[Q]?=some (9,[.flat (.string (S s))])) (e:∀a,(BX a).length=nb) (B:∀q∈oc,q.1<nb)
 (E:∀a x,a.length<=s.length->da code lib kb [.Sa b,.flat (.string (S x))] (BX a) (cl oc)=some ([.flat (.bool true)],false,BX (a++[x]),cl oc)):
 da code lib 145 [.Sa b,.ptr P 0,.ptr Q 0] (BX []) (cl oc)=some ([],false,BX out,cl oc):=by
 have X:za=4294967296:=rfl;unfold hu at h;split at h
 case isFalse=>cases h
 rename_i o;have H:(dc mark).length=mark.length+4:=by unfold dc;simp
 have c1:=tD R ([13,10]++s) (dc mark++[13,10]) na;rw[if_pos o,o]at c1;have I:=Zm o;simp only[Ba,ua,Ca]at I;have K:(([13,10]++s).drop (dc mark++[13,10]).length).length<=s.length:=by simp only[fc,Ba,ua,Ca];omega
 obtain⟨rest,w⟩:∃r,([13,10]++s).drop (dc mark++[13,10]).length=r:=⟨_,rfl⟩;rw[w]at h c1 K;simp only[Ha,Ra]at c1;obtain⟨line,g⟩:∃l,dc mark=l:=⟨_,rfl⟩;have e1:S (13::10::45::45::mark)=S line:=by rw[<-g];rfl
 rw[g]at h c1 H;have k:=ir (lib:=lib) 7;have W:((7:Nat):Int)=7:=rfl;rw[W]at k
 have j:=Ah (body:=ma (da code lib) ja LB) (live:=[0,4,5,7,8]) (nb:=nb) (fun q:List ba×Nat×Nat=>(⟨[(0,.Sa b),(4,.flat (.string (S line))),(5,.flat (.string (S rest))),(7,.flat (.int .i64 (q.2.1:Nat))),(8,.flat (.int .i64 (q.2.2:Nat)))],cl oc,[],BX q.1⟩:St))
  (fun q=>q.2.1<=q.2.2/\q.2.2<=rest.length/\q.1.length<=q.2.2/\∃n,rest.length+1<=n+q.2.2/\Mb (vn rest line) none n q=some out) (fun q=>rest.length - q.2.2)
  (fun q=>(.ret,⟨[],cl oc,[],BX out⟩)) (fun q J=>?_) (n:=ja) (a:=([],0,0)) ⟨Aa _,Cb _,Aa _,s.length+1,aa,h⟩ (by grind [ja])
 ·simp only[n0]at j
  have g1:=U [];have u:=V [];have g3:=e [];have g4:=e out;have y:=ub oc B;refine la WY (qa rfl) ?_;have e2:S (line++[13,10])=S (line++[13,10]):=rfl;clear h;simp(maxSteps:=999999) (disch:=first|assumption|omega) only[go_sem,simprocAttr,au,g1,u,g3,g4,e1,c1,k,Ce g3,Ce g4,y,j]
 ·obtain⟨a,fr,at_⟩:=q
  obtain⟨Y,Z,k3Z,n,G,d⟩:=J;dsimp only at Y Z k3Z G d⊢;cases n with
  |zero=>omega
  |succ n=>
   have F:=HQ T (rest.drop at_) line na;by_cases A:Lib.index (rest.drop at_) line=-1
   ·rw[ad (r:=none) (by grind [vn])]at d;cases d
   ·obtain⟨r1,r2⟩:=L4 (n:=0) A
    rw[fc]at r1;obtain⟨i,O⟩:∃i,(Lib.index (rest.drop at_) line).toNat=i:=⟨_,rfl⟩;rw[O]at r1 r2;rw[r2]at F
    have c:vn rest line (a,fr,at_)=(if([45,45,13,10]:ba).isPrefixOf (rest.drop (at_+i+line.length))then(if rest.drop (at_+i+line.length)=[45,45,13,10]then .inr (some (a++[(rest.take (at_+i)).drop fr]))else .inr none)
     else if([13,10]:ba).isPrefixOf (rest.drop (at_+i+line.length))then .inl (a++[(rest.take (at_+i)).drop fr],at_+i+line.length+2,at_+i+line.length+2)else .inl (a,fr,at_+i+1)):=by
     unfold vn;dsimp only;rw[if_neg A,O]
    have M:((at_:Int)+(i:Int)+(line.length:Int)).toNat=at_+i+line.length:=aa
    have g1:=e a;have y:=ub oc B;have p:=eA N (rest.drop (at_+i+line.length)) [45,45,13,10] (by rw[fc];omega) ha;have t:=eA N (rest.drop (at_+i+line.length)) [13,10] (by rw[fc];omega) ha;have L:rest.take rest.length=rest:=cm;have D:=E a ((rest.take (at_+i)).drop fr) aa;have u:=e (a++[(rest.take (at_+i)).drop fr]);cases C:([45,45,13,10]:ba).isPrefixOf (rest.drop (at_+i+line.length))with
    |true=>
     rw[C]at c p;simp only[if_true]at c;by_cases v:rest.drop (at_+i+line.length)=[45,45,13,10]
     ·rw[if_pos v]at c
      rw[ad c]at d;simp only[Wb]at d;left;refine⟨_,_,?_,ea,rfl⟩;have J:=eq_true v;rw[<-d];clear c d G h E;simp(maxSteps:=999999) (disch:=first|assumption|omega) only[go_sem,simprocAttr,au,kH,L,M,F,k,p,J,D,g1,u,Gb,Eb,Nb,Ce g1,Ce u,y,zc]
     ·rw[if_neg v]at c
      rw[ad c]at d;cases d
    |false=>
     rw[C]at c p;simp only[La,if_false]at c;cases v:([13,10]:ba).isPrefixOf (rest.drop (at_+i+line.length))with
     |true=>
      rw[v]at c t;simp only[if_true]at c;rw[ef c]at d;right;have z:=Zm v;rw[fc]at z;simp only[ua,Ca]at z;refine⟨⟨[(0,.Sa b),(4,.flat (.string (S line))),(5,.flat (.string (S rest))),(7,.flat (.int .i64 ((at_+i+line.length+2:Nat):Nat))),(8,.flat (.int .i64 ((at_+i+line.length+2:Nat):Nat)))],cl oc,[],BX (a++[(rest.take (at_+i)).drop fr])⟩,(a++[(rest.take (at_+i)).drop fr],at_+i+line.length+2,at_+i+line.length+2),?_,?_,⟨Aa _,Hg,by simp only[Ba,ua,Ca];omega,n,na,d⟩,Hg,rfl⟩
      ·clear c d G h E
       simp(maxSteps:=999999) (disch:=first|assumption|omega) only[go_sem,simprocAttr,au,kH,L,M,F,k,p,t,D,g1,u,Gb,Eb,Nb,Ce g1,Ce u,y,zc]
      ·simp(maxSteps:=999999) (disch:=first|assumption|omega) only[go_sem,simprocAttr,au,u,Hb,sb,Gb,Eb,Nb,Ce u,y]
     |false=>
      rw[v]at c t;simp only[La,if_false]at c;rw[ef c]at d;right;refine⟨⟨[(0,.Sa b),(4,.flat (.string (S line))),(5,.flat (.string (S rest))),(7,.flat (.int .i64 (fr:Nat))),(8,.flat (.int .i64 ((at_+i+1:Nat):Nat)))],cl oc,[],BX a⟩,(a,fr,at_+i+1),?_,?_,⟨na,na,na,n,na,d⟩,Hg,rfl⟩
      ·clear c d G h E
       simp(maxSteps:=999999) (disch:=first|assumption|omega) only[go_sem,simprocAttr,au,kH,L,M,F,k,p,t,g1,Eb,Nb,Ce g1,zc]
      ·simp(maxSteps:=999999) (disch:=first|assumption|omega) only[go_sem,simprocAttr,au,g1,Hb,sb,Gb,Eb,Nb,Ce g1,y]
def iK(s mark)(bx)(oc)(h:∀q∈oc,q.1<bx.length):da code lib 83 [.flat (.string (S s)),.flat (.string (S mark))] bx (cl oc)=some ([.ib 145 [.ptr (bx.length+1) 0,.ptr bx.length 0]],false,bx++[(9,[.flat (.string (S s))]),(9,[.flat (.string (S mark))])],cl oc):=by
 refine la VY (qa rfl) ?_;have a:¬(bx.length+1+1=bx.length):=aa
 have b:qc (bx.length+1+1) (cl oc)=cl oc:=ub _ fun q d=>by grind
 have c:bx.length+1+1=bx.length+2:=rfl;simp only[go_sem,simprocAttr,Hb,sb,Gb,Eb,Ba,a,Nat.lt_irrefl,b,vc]
def eE{α:Type}(a l:List α)(k:Nat):(a++l)[a.length+k]?=l[k]?:=by rw[Pf aa];congr 1;omega
def C4(a l:List UInt8)(k:Nat):gi (a++l) (((a.length+k:Nat):Int)+1)=gi l ((k:Int)+1):=by
 unfold gi;have e2:(((a.length+k:Nat):Int)+1).toNat=a.length+(k+1):=aa
 have e4:((k:Int)+1).toNat=k+1:=aa
 rw[if_neg aa,if_neg aa,e2,e4,eE,show a.length+(k+1)+1=a.length+(k+1+1) by omega,eE]
def Q1(a l:List UInt8)(k:Nat):hj (a++l) (a.length+k)=hj l k:=by
 unfold hj;rw[eE,ZJ,ZJ,C4]
def ky{b l o:List UInt8}(a:0<b.length)(h:hj (b++l) 0=some (o,b.length)):Ie (b++l)=(Ie l).map (o++·):=by
 unfold Ie;rw[bU (Dq _) (by rw[Ba];omega) h,Ba,show 0+b.length=b.length+0 by omega,zcl (Q1 b l)]
def sq(s w:List UInt8):Qh s w ((0:Nat):Int)=w.isPrefixOf s:=YJ s w 0 (Cb _)
def P0(l:List UInt8):Ie ([13,10]++l)=(Ie l).map ([10]++·):=ky ea (by
 unfold hj;rw[sq];simp[List.isPrefixOf])
def R0(l:List UInt8):Ie ([61,13,10]++l)=Ie l:=by
 have:=ky (b:=[61,13,10]) (l:=l) (o:=[]) ea (by
  unfold hj;rw[sq,sq];simp[List.isPrefixOf])
 rw[this];cases Ie l<;>simp
def Q0(c:UInt8)(l:List UInt8)(h:Ei c=true\/c=32\/c=9):Ie ([c]++l)=(Ie l).map ([c]++·):=ky ea (by
 have b:¬c=13:=by rintro rfl;revert h;decide
 have a:¬c=61:=by rintro rfl;revert h;decide
 unfold hj;rw[sq,sq];have e1:(([13,10]:List UInt8).isPrefixOf ([c]++l))=false:=by simp[List.isPrefixOf,beq_eq_false_iff_ne.2 (fun h=>b (Eq.symm h))]
 have e2:(([61,13,10]:List UInt8).isPrefixOf ([c]++l))=false:=by simp[List.isPrefixOf,beq_eq_false_iff_ne.2 (fun h=>a (Eq.symm h))]
 rw[e1,e2];rcases h with h|h|h<;>simp[h,a]
 all_goals decide)
def D4:∀c:UInt8,Ly (Qk (c/16)) (Qk (c % 16))=some c:=Fb
def G4:∀c:UInt8,(Qk (c/16)==13)=false:=Fb
def U0(c:UInt8)(l:List UInt8):Ie ((61::pair c)++l)=(Ie l).map ([c]++·):=ky ea (by
 unfold hj;rw[sq,sq];have e1:(([13,10]:List UInt8).isPrefixOf ((61::pair c)++l))=false:=by simp[List.isPrefixOf]
 have e2:(([61,13,10]:List UInt8).isPrefixOf ((61::pair c)++l))=false:=by
  have:=G4 c;simp[List.isPrefixOf,pair];intro h;rw[<-h]at this;exact absurd this ha
 rw[e1,e2];have e3:gi ((61::pair c)++l) (((0:Nat):Int)+1)=some c:=by
  unfold gi;rw[if_neg aa];simp[pair,D4]
 simp only[Ha,ro,La,if_false,if_true];rw[Ha]at e3;rw[e3];simp[pair])
def xO(c:UInt8)(t l:List UInt8):Ie (piece c t++l)=(Ie l).map ([c]++·):=by
 unfold piece;split
 ·rename_i h
  refine Q0 c l ?_;simp at h;rcases h with h|⟨h,_⟩
  ·exact .inl h
  ·exact .inr h
 ·exact U0 c l
def J0(s:List UInt8):∀line,Ie (eb line s)=some s:=by
 induction s with
 |nil=>intro line;rfl
 |cons c t a=>
  intro line;unfold eb;split
  ·rename_i h
   rw[show 13::10::eb 0 t=[13,10]++eb 0 t from rfl,P0,a,h];rfl
  ·split
   ·rw[R0,xO,a];rfl
   ·rw[xO,a];rfl
set_option maxRecDepth 100000
def Pb:ba:=[61,95,110,117,110,99,105,111]
def KQ(p r:ba)(h:me p=true):Lib.index (p++(dc Pb++r)) (dc Pb)=(p.length:Int):=by
 refine uE p _ r ha fun i b=>?_
 have a:p.drop i≠[]:=fun e=>by have:=congrArg List.length e;rw[fc]at this;simp at this;omega
 have:=g_ (w:=[110,117,110,99,105,111]) (r:=[10,45,45]++Pb++r) a (lS p i h);exact this
def hX{pre p r:ba}{out:List ba}(h:me p=true):vn (pre++(p++(dc Pb++([13,10]++r)))) (dc Pb) (out,pre.length,pre.length)=.inl (out++[p],(pre++p++dc Pb++[13,10]).length,(pre++p++dc Pb++[13,10]).length):=by
 have g:(pre++(p++(dc Pb++([13,10]++r)))).drop pre.length=p++(dc Pb++([13,10]++r)):=ea
 have i:=KQ p ([13,10]++r) h;have a:¬((p.length:Int)=-1):=aa
 have d:(pre++(p++(dc Pb++([13,10]++r)))).drop (pre.length+p.length+(dc Pb).length)=[13,10]++r:=by
  have e:pre++(p++(dc Pb++([13,10]++r)))=(pre++p++dc Pb)++([13,10]++r):=by simp only[vc]
  rw[e,show pre.length+p.length+(dc Pb).length=(pre++p++dc Pb).length by simp only[Ba]];exact Mt
 have ht:((pre++(p++(dc Pb++([13,10]++r)))).take (pre.length+p.length)).drop pre.length=p:=by
  rw[<-vc,show pre.length+p.length=(pre++p).length by simp only[Ba],List.take_left];exact Mt
 unfold vn;dsimp only;rw[g,i,if_neg a,ic,d,ht];have b:([45,45,13,10]:ba).isPrefixOf ([13,10]++r)=false:=rfl;have c:([13,10]:ba).isPrefixOf ([13,10]++r)=true:=by simp[List.isPrefixOf]
 rw[b,c];simp only[La,if_false,if_true,Ba,ua,Ca]
def gX{pre p:ba}{out:List ba}(h:me p=true):vn (pre++(p++(dc Pb++[45,45,13,10]))) (dc Pb) (out,pre.length,pre.length)=.inr (some (out++[p])):=by
 have c:(pre++(p++(dc Pb++[45,45,13,10]))).drop pre.length=p++(dc Pb++[45,45,13,10]):=ea
 have d:=KQ p [45,45,13,10] h;have a:¬((p.length:Int)=-1):=aa
 have b:(pre++(p++(dc Pb++[45,45,13,10]))).drop (pre.length+p.length+(dc Pb).length)=[45,45,13,10]:=by
  have e:pre++(p++(dc Pb++[45,45,13,10]))=(pre++p++dc Pb)++[45,45,13,10]:=by simp only[vc]
  rw[e,show pre.length+p.length+(dc Pb).length=(pre++p++dc Pb).length by simp only[Ba]];exact Mt
 have ht:((pre++(p++(dc Pb++[45,45,13,10]))).take (pre.length+p.length)).drop pre.length=p:=by
  rw[<-vc,show pre.length+p.length=(pre++p).length by simp only[Ba],List.take_left];exact Mt
 unfold vn;dsimp only;rw[c,d,if_neg a,ic,b,ht];rfl
def iX(p q:ba)(j:me p=true)(k:me q=true):hu (Zs Pb++(p++(Yr Pb++(q++ns Pb)))) Pb=some [p,q]:=by
 have g:Zs Pb++(p++(Yr Pb++(q++ns Pb)))=[45,45]++Pb++[13,10]++(p++(dc Pb++([13,10]++(q++(dc Pb++[45,45,13,10]))))):=by
  simp only[Zs,Yr,ns,dc,vc]
 rw[g];obtain⟨R,d⟩:∃R,R=p++(dc Pb++([13,10]++(q++(dc Pb++[45,45,13,10])))):=⟨_,rfl⟩;rw[<-d];have b:(dc Pb++[13,10]).isPrefixOf ([13,10]++([45,45]++Pb++[13,10]++R))=true:=by
  rw[tl];exact⟨_,rfl⟩
 have h:([13,10]++([45,45]++Pb++[13,10]++R)).drop (dc Pb++[13,10]).length=R:=rfl;unfold hu;rw[if_pos b,h];obtain⟨n,i⟩:∃n,([45,45]++Pb++[13,10]++R).length+1=n+2:=⟨([45,45]++Pb++[13,10]++R).length - 1,ea⟩;rw[i];have e1:R=[]++(p++(dc Pb++([13,10]++(q++(dc Pb++[45,45,13,10]))))):=by rw[d];rfl
 have s1:=hX (pre:=[]) (out:=[]) (r:=q++(dc Pb++[45,45,13,10])) j;rw[<-e1]at s1;rw[show([]:ba).length=0 from rfl]at s1;rw[ef (n:=n+1) s1];have e2:R=([]++p++dc Pb++[13,10])++(q++(dc Pb++[45,45,13,10])):=by rw[d];simp only[vc,Ra]
 obtain⟨c,a⟩:∃x,[]++p++dc Pb++[13,10]=x:=⟨_,rfl⟩;rw[a]at e2⊢;have e:=gX (pre:=c) (out:=[]++[p]) k;rw[<-e2]at e;rw[ad (n:=n) e];rfl
variable {lib:Callee}
def mJ(lib:Callee):Prop:=∀s:ba,s.length<=10000->lib 75 [.flat (.string (S s))] [] []=some ((match ih s with| .form=>[.ia 0 [],.flat (.int .i64 0),.flat (.int .i64 7)]| .long=>[.ia 0 [],.flat (.int .i64 0),.flat (.int .i64 6)]| .ok F at_=>[.ia F.length (Jg F),.flat (.int .i64 (at_:Nat)),.flat (.int .i64 0)]),false,[],[])
def JU(H:mJ lib)(s)(h:s.length<=10000):da code lib 75 [.flat (.string (S s))] [] []=some ((match ih s with| .form=>[.ia 0 [],.flat (.int .i64 0),.flat (.int .i64 7)]| .long=>[.ia 0 [],.flat (.int .i64 0),.flat (.int .i64 6)]| .ok F at_=>[.ia F.length (Jg F),.flat (.int .i64 (at_:Nat)),.flat (.int .i64 0)]),false,[],[]):=Ef ha ca (H s h)
def mB(lib:Callee):Prop:=∀s:ba,s.length<=1000000->lib 143 [.flat (.string (S s))] [] []=some ((match Ie s with|some t=>[.flat (.string (S t)),.flat (.int .i64 0)]|none=>[.flat (.string (S [])),.flat (.int .i64 7)]),false,[],[])
def u1(H:mB lib)(s)(h:s.length<=1000000):da code lib 143 [.flat (.string (S s))] [] []=some ((match Ie s with|some t=>[.flat (.string (S t)),.flat (.int .i64 0)]|none=>[.flat (.string (S [])),.flat (.int .i64 7)]),false,[],[]):=Ef ha ca (H s h)
structure Ut (lib:Callee):Prop extends LibK lib where
 pre:sc lib
 dq:mB lib
 Yo:Xi lib
 ind:aq lib
 mI:mJ lib
def zcq(a:mB lib)(s t)(hs:s.length<=1000000)(h:Ie s=some t):da code lib 81 [.flat (.string (S s)),.flat (.string (S il))] [] []=some ([.flat (.string (S t))],false,[],[]):=by
 have g:da code lib 76 [.flat (.bool true),.flat (.int .i64 7)] [] []=some ([],false,[],[]):=ir 7;have e:=u1 a s hs;rw[h]at e;dsimp only at e;have b:(il=[55,98,105,116])=False:=eq_false ha;have d:(il=[113,117,111,116,101,100,45,112,114,105,110,116,97,98,108,101])=True:=eq_true rfl;clear h;generalize il=c at*;exact Fa YY
def Qe(k s:ba):List PV:=[.ia 2 (Jg (li k)),.flat (.string (S (ko k))),.flat (.string (S s)),.ia 0 []]
def zP:List PV:=[.ia 0 [],.flat (.string (S [])),.flat (.string (S [])),.ia 0 []]
def Gx(j:Nat):Oa:=[(52,zP),(24,[.flat (.int .i64 0)]),(93,[.flat (.int .i64 (j:Nat))])]
def tq(j:Nat)(F:List PV)(b:Nat)(P A:List PV)(a:Nat)(ty bd mk:ba):Oa:=[(52,zP),(24,[.flat (.int .i64 0)]),(93,[.flat (.int .i64 (j:Nat))]),(52,zP),(52,[.ia 5 F,.flat (.string (S ty)),.flat (.string (S [])),.ia b P]),(29,[.ia a A]),(9,[.flat (.string (S bd))]),(9,[.flat (.string (S mk))])]
def Av:List Loc:=[.cell 5 0,.cell 3 0,.cell 3 3,.cell 0 0,.cell 0 3]
def Ep:List Loc:=[.cell 5 0,.cell 4 3,.cell 3 0,.cell 3 3,.cell 0 0,.cell 0 3]
def Bv:List Loc:=[.cell 4 3,.cell 5 0,.cell 3 0,.cell 3 3,.cell 0 0,.cell 0 3]
def xR(L:Ut lib){k:ba}(c:k=Nc\/k=Uc)(s:ba)(hs:s.length<=250)(j:Nat){F:List PV}(hF:∀n,Ia n F=true)(h:Nat){P:List PV}(E:∀n,Ia n P=true){A:List PV}(D:∀n,Ia n A=true)(g:Nat)(ty bd mk:ba){oc:List Loc}(v:oc=Av\/oc=Ep\/oc=Bv):
 da code lib 37 [.ptr 2 0,.flat (.string (S (Pe k s))),.flat (.int .i64 1)] (tq j F h P A g ty bd mk) oc=some ([.agg (Qe k s)],false,tq j F h P A g ty bd mk,oc):=by
 have G:=DH c hs;have r:=ms s 0;obtain⟨a,e,B,C⟩:∃a,ih (Pe k s)=.ok (li k) a/\(Pe k s).drop a=eb 0 s/\a<=(Pe k s).length:=by
  rcases c with rfl|rfl
  ·exact⟨_,zdJ s,ED _ _,by simp[Pe]⟩
  ·exact⟨_,zdH s,ED _ _,by simp[Pe]⟩
 have d:=JU L.mI (Pe k s) aa;rw[e]at d;have p:(li k).length=2:=rfl;dsimp only at d;rw[p]at d;have x:=m8 L.toLibK c;have i:=A0 L.toLibK c;have l:=EP L.fold il ha;rw[show ie il=il by decide]at l;have o:=eA L.pre (ko k) [109,117,108,116,105,112,97,114,116,47] (by rcases c with rfl|rfl<;>decide) ha;rw[show([109,117,108,116,105,112,97,114,116,47]).isPrefixOf (ko k)=false by rcases c with rfl|rfl<;>decide]at o;have y:=zcq L.dq (eb 0 s) s aa (J0 s 0);have H:da code lib 76 [.flat (.bool true),.flat (.int .i64 0)] [] []=some ([],false,[],[]):=ir 0;have u:=Lq (li k);have t:=fun n=>gp (n:=n) (li k)
 unfold tA at i;unfold Qe tq zP;clear e L;generalize Jg (li k)=z at*;generalize Pe k s=b at*;generalize ko k=w at*;generalize eb 0 s=en at*;generalize il=q at*;rcases v with rfl|rfl|rfl
 ·unfold Av
  exact Fa ru
 ·unfold Ep
  exact Fa ru
 ·unfold Bv
  exact Fa ru
def yp(m:kc):List PV:=Jg (Pm (Qc m.fr) (Qc m.to) (Qc m.su))
def ii(m:kc):List PV:=[.ia 5 (yp m),.flat (.string (S Wk)),.flat (.string (S [])),.ia 2 (Qe Nc m.te++Qe Uc m.ht)]
def Zr(F:List PV)(ty bd mk:ba)(out:List ba):Oa:=tq 0 F 0 [] (wa out) out.length ty bd mk++[(0,[.lp 37 0 .ready [14] [.ptr 5 0]])]
def o4(F:List PV)(ty bd mk x:ba)(out:List ba)(e:out.length<=1000000):
 da code lib kb [.Sa 8,.flat (.string (S x))] (Zr F ty bd mk out) Ep=some ([.flat (.bool true)],false,Zr F ty bd mk (out++[x]),Ep):=by
 have d:za=4294967296:=rfl;refine ep Wo ru rfl (by unfold Zr tq;rfl) rfl ?_;have a:[PV.flat (.string (S x))]=wa [x]:=rfl;have b:wa out++[PV.flat (.string (S x))]=wa (out++[x]):=by rw[a,tr]
 have c:(out++[x]).length=out.length+1:=ea
 unfold Zr tq Ep zP;rw[<-b,c];clear a b c;exact xg @iQ.eq_1 @SP.eq_1 @cd @Lf
def r9(L:Ut lib)(m:kc)(k:m.Jm):
 da code lib 37 [.ptr 2 0,.flat (.string (S (rh Na (eb 0) m))),.flat (.int .i64 0)] (Gx 0) [.cell 0 0,.cell 0 3]=some ([.agg (ii m)],false,Gx 2,[.cell 0 0,.cell 0 3]):=by
 have J:za=4294967296:=rfl;have K:=nK m k;have l:=JU L.mI _ K;rw[zdI]at l;have p:(Pm (Qc m.fr) (Qc m.to) (Qc m.su)).length=5:=rfl;dsimp only at l;rw[p]at l;have W:=l8 L.toLibK (Qc m.fr) (Qc m.to) (Qc m.su);have C:=y0 L.toLibK (Qc m.fr) (Qc m.to) (Qc m.su);have D:=EP L.fold [55,98,105,116] ha;rw[show ie [55,98,105,116]=[55,98,105,116] by decide]at D;have E:=eA L.pre Wk [109,117,108,116,105,112,97,114,116,47] ha ha;rw[show([109,117,108,116,105,112,97,114,116,47]).isPrefixOf Wk=true by decide]at E;have X:=x9 L.toLibK;have G:(rh Na (eb 0) m).drop ((Ya (Pk m)).length+2)=cj m:=by rw[Hx];exact ED _ _
 have I:(cj m).length<=10000:=by rw[<-G,fc];omega
 have r:hu (cj m) Zg=some [Pe Nc m.te,Pe Uc m.ht]:=iX _ _ (mS (.inl rfl)) (mS (.inr rfl));have H:(Ya (Pk m)).length+2<=(rh Na (eb 0) m).length:=by rw[Hx];simp
 have m0Z:da code lib 76 [.flat (.bool true),.flat (.int .i64 0)] [] []=some ([],false,[],[]):=ir 0;have m7Z:da code lib 76 [.flat (.bool true),.flat (.int .i64 7)] [] []=some ([],false,[],[]):=ir 7;have m8Z:da code lib 76 [.flat (.bool true),.flat (.int .i64 8)] [] []=some ([],false,[],[]):=ir 8;have m5Z:da code lib 76 [.flat (.bool true),.flat (.int .i64 5)] [] []=some ([],false,[],[]):=ir 5;have N:=Lq (Pm (Qc m.fr) (Qc m.to) (Qc m.su));have e:=fun n=>gp (n:=n) (Pm (Qc m.fr) (Qc m.to) (Qc m.su))
 have b:∀n,Ia n (Qe Nc m.te)=true:=fun n=>by simp only[Qe,Ia,PV.low,gp,Dg]
 have h:∀n,Ia n (Qe Uc m.ht)=true:=fun n=>by simp only[Qe,Ia,PV.low,gp,Dg]
 have d:∀n,Ia n (wa [Pe Nc m.te,Pe Uc m.ht])=true:=fun n=>Xd _
 have i:=jX (lib:=lib) L.ind L.Yo L.pre (cj m) Zg _ aa ha r (Zr (yp m) Wk (cj m) Zg) [(5,0),(4,3),(3,0),(3,3),(0,0),(0,3)] 8 7 6 9 (fun a=>rfl) (fun a=>rfl) (fun a=>rfl) ha (fun a x Z=>o4 _ _ _ _ x a aa);have g:=iK (lib:=lib) (cj m) Zg [(52,zP),(24,[.flat (.int .i64 0)]),(93,[.flat (.int .i64 0)]),(52,zP),(52,[.ia 5 (yp m),.flat (.string (S Wk)),.flat (.string (S [])),.ia 0 []]),(29,[.ia 0 []])] [(5,0),(4,3),(3,0),(3,3),(0,0),(0,3)] (show∀q∈([(5,0),(4,3),(3,0),(3,3),(0,0),(0,3)]:List (Nat×Nat)),q.1<6 by decide);have c:=iK (lib:=lib) (cj m) Zg [] [] ea;have g1:=fun oc o=>xR L (.inl rfl) m.te k.2.2.2.1 2 (F:=yp m) e 0 (P:=[]) (fun _=>rfl) (A:=wa [Pe Nc m.te,Pe Uc m.ht]) d 2 Wk (cj m) Zg (oc:=oc) o
 have j:=fun oc o=>xR L (.inr rfl) m.ht k.2.2.2.2 2 (F:=yp m) e 1 (P:=Qe Nc m.te) b (A:=wa [Pe Nc m.te,Pe Uc m.ht]) d 2 Wk (cj m) Zg (oc:=oc) o
 have v:=g1 Av (.inl rfl);have w:=g1 Ep (.inr (.inl rfl));have a3:=g1 Bv (.inr (.inr rfl));have y:=j Av (.inl rfl);have z:=j Ep (.inr (.inl rfl));have B:=j Bv (.inr (.inr rfl));clear g1 j r L;have t:Ib (Qe Nc m.te)=true:=by simp only[Qe,Ib,PV.pj,Lq,Dg]
 have u:Ib (Qe Uc m.ht)=true:=by simp only[Qe,Ib,PV.pj,Lq,Dg]
 have O:(Qe Nc m.te).length=4:=rfl;have Q:(Qe Uc m.ht).length=4:=rfl;have M:∀n,Ia n (Qe Nc m.te++Qe Uc m.ht)=true:=fun n=>by rw[Az,b,h];rfl
 have U:zd (Qe Nc m.te)=Qe Nc m.te:=rfl;have V:zd (Qe Uc m.ht)=Qe Uc m.ht:=rfl;have R:sd (Qe Nc m.te)=true:=rfl;have T:sd (Qe Uc m.ht)=true:=rfl;clear p k;unfold ii Gx;simp only[Zr,tq,zP,cl,gc,Ve,Ha,Ra,ua,Ca,show wa []=[]from rfl,wa,ld,Nat.reduceAdd,n0,show((2:Nat):Int)=2 from rfl,Av,Ep,Bv]at i g c v w a3 y z B d⊢;unfold tA at C;unfold yp at*;generalize Jg (Pm (Qc m.fr) (Qc m.to) (Qc m.su))=Y at*;generalize Qe Nc m.te=ppZ at*;generalize Qe Uc m.ht=phZ at*;generalize Pe Nc m.te=x1Z at*;generalize Pe Uc m.ht=x2Z at*;generalize rh Na (eb 0) m=s at*;generalize (Ya (Pk m)).length+2=at_ at*;generalize cj m=bd at*;generalize Wk=ty at*;generalize Zg=mk at*;refine la ru (qa rfl) ?_;exact ye @Rc @ec @pc @Ec @Ed A_
def lT:ka:=.Ab [0,2,3] [] [⟨some 2,none,.alloc 52 [.flat (.slice none 0 0),.flat (.string ⟨#[]⟩),.flat (.string ⟨#[]⟩),.flat (.slice none 0 0)]⟩,⟨some 3,none,.alloc 24 [.flat (.int .i64 0)]⟩]
def iT:ka:=.seq (.Ab [0,2,3,4] [] [⟨some 6,none,.build [.flat (.int .i64 0)] []⟩,⟨some 7,none,.box 93 1 (.t 6)⟩,⟨some 4,none,.asg (.t 7)⟩]) (.seq (.Ab [2,3] [] [⟨some 8,none,.mv (.t 4)⟩,⟨some 9,none,.mv (.t 0)⟩,⟨some 10,none,.call 37 [.t 8,.t 9,.c (.flat (.int .i64 0))]⟩,⟨none,none,.store 4 (.t 2) (.t 10)⟩,⟨none,none,.store 1 (.t 3) (.c (.flat (.int .i64 0)))⟩]) (.ret [2,3]))
def Ip:yo:=⟨11,[.inr ⟨2,⟨true,4⟩⟩,.inr ⟨3,⟨false,1⟩⟩],lT,5,36,[.t 2,.t 3],iT⟩
def zat:mu Tryz.prog [] [[0,2,3]] [[0,2,3,4],[2,3],[2,3]] 19=some Ip:=ca
def zaC(L:Ut lib)(m:kc)(g:m.Jm):Yp (da code lib) ja Ip [.flat (.string (S (rh Na (eb 0) m)))] [] [] ([.agg (ii m),.flat (.int .i64 0)],false,[],[]):=by
 have a:=r9 L m g;have b:∀n,Ia n (ii m)=true:=fun n=>by simp only[ii,yp,Qe,Ha,Ra,Ia,PV.low,gp,Dg]
 have j:(PV.agg (ii m)).fi=true:=rfl;have l:(ii m).length=4:=rfl;have o:zd (ii m)=ii m:=rfl;clear L;generalize rh Na (eb 0) m=s at*;have k:Zc 0 0 (ii m)=[]:=rfl;have h:([Sum.inr (2,true,4),Sum.inr (3,false,1)]:List (Sum Nat (Nat×Bool×Nat))).mapM (Hi ⟨[(2,.ptr 0 0),(3,.ptr 1 0)],[],[],[(52,ii m),(24,[.flat (.int .i64 0)]),(93,[.flat (.int .i64 2)])]⟩)=some [.agg (ii m),.flat (.int .i64 0)]:=rfl;generalize ii m=d at*;simp only[Gx,zP,n0,show((2:Nat):Int)=2 from rfl]at a;refine⟨qa rfl,.normal,⟨[(0,.flat (.string (S s))),(2,.ptr 0 0),(3,.ptr 1 0)],[.cell 0 0,.cell 0 3],[],[(52,zP),(24,[.flat (.int .i64 0)])]⟩,?_,.ret,⟨[(2,.ptr 0 0),(3,.ptr 1 0)],[],[],[(52,d),(24,[.flat (.int .i64 0)]),(93,[.flat (.int .i64 2)])]⟩,?_,(fun i e=>by cases e),?_⟩
 ·unfold Ip lT zP
  exact sa
 ·unfold Ip iT yo.mid zP
  exact sa
 ·have c:Ia 0 [PV.agg d,.flat (.int .i64 0)]=true:=by simp only[Ia,PV.low,b,Dg]
  unfold Ip Ey;dsimp only;rw[h,fd];simp[trim,c,dj,Ol]
def h_:nJ Tryz.prog 36 2:=by
 intro b w h
 match b,h with
 |[p,q],_=>
 refine callsDIn_of_wpSIn Tryz.func36 rfl trivial fun a cs c=>?_
 simp only[Tryz.ntmps36,Nw,ua,Ca,Nat.reduceAdd,Nat.reduceSub,Ow,Pw,Qw,Rw,Ra,Ha];apply wpSIn_seq;apply wpSIn_region;simp[wpOpsSIn,go_sem,recoverD,c,Exit.thenS];apply wpSIn_seq;apply wpSIn_seq;apply wpSIn_region;simp[wpOpsSIn,go_sem,Exit.thenS];refine wpSIn_cond (t:=true) (by simp[Act.eval]) ?_;simp only[if_true];refine wpSIn_of_wpIn rfl (wpIn_ret ?_);cases a;simp_all[bodyPostS,results,Tryz.results36,Exit.thenS]
def zaD(cf:Callee)(n:Nat)(D:yo){args:List PV}{bx:Oa}{oc:List ya.Loc}{r r':Fe}(h:Yp cf n D args bx oc r)(k:Yp cf n D args bx oc r'):r=r':=by
 obtain⟨_,o,s1,g,a⟩:=h;obtain⟨_,u,p,c,b⟩:=k;rw[g]at c;cases c;cases o with
 |exit i=>exact a.elim
 |ret=>rw[a]at b;exact jf b
 |normal=>
  obtain⟨v,st,j,t,l⟩:=a;obtain⟨w,st',d,q,e⟩:=b;rw[j]at d;cases d;rw[l]at e;exact jf e
open Classical in
noncomputable def Jv(lib:Callee):Callee:=fun f args bx oc=>if h:f=19/\∃r,Yp (da code lib) ja Ip args bx oc r then some (choose h.2)else none
def zay{args:List PV}{bx:Oa}{oc:List ya.Loc}{r:Fe}(h:Yp (da code lib) ja Ip args bx oc r):Jv lib 19 args bx oc=some r:=by
 unfold Jv;rw[dif_pos ⟨rfl,r,h⟩];congr 1;exact zaD _ _ _ (Pt (⟨r,h⟩:∃r,Yp (da code lib) ja Ip args bx oc r)) h
def zaA{Γ:lf}(c:xc Tryz.prog Γ lib):xc Tryz.prog Γ (Jv lib):=by
 intro f args bx oc e os bx' oc' a;unfold Jv at a;split at a
 case isFalse=>cases a
 rename_i h;obtain⟨rfl,hr⟩:=h;have b:=Pt hr;rw[jf a]at b;intro w Fr β vs d;exact v2 Tryz.checked.mixed ca (RD Tryz.checked.mixed ca dy c) zat h_ b d
def Zt(lib:Callee):Prop:=∀m:kc,m.Jm->lib 19 [.flat (.string (S (rh Na (eb 0) m)))] [] []=some ([.agg (ii m),.flat (.int .i64 0)],false,[],[])
def zaB(H:Zt lib)(m:kc)(a:m.Jm):da code lib 19 [.flat (.string (S (rh Na (eb 0) m)))] [] []=some ([.agg (ii m),.flat (.int .i64 0)],false,[],[]):=Ef ha ca (H m a)
def zaz(L:Ut lib):Zt (Jv lib):=fun m a=>zay (zaC L m a)
def an(enc qp:ba->ba)(m:kc):ba:=if Bf m=0 then rh enc qp m else[]
def sN(m):Bf m<=7:=by unfold Bf;split<;>(try split)<;>omega
def mX{enc qp}(z:Wi lib enc)(J:bq lib qp)(N:We lib)(U:Xt lib)(T:Vt lib)(O:sc lib)(w:Sb lib)(V:Yt lib)(m)(hmZ:m.small):da code lib 21 [.agg (Lb m)] [] []=some ([.flat (.string (S (an enc qp m))),.flat (.int .i64 (Bf m:Nat))],false,[],[]):=by
 have g:=jY N U T O w V m hmZ;have hz0:(⟨#[]⟩:ByteArray)=S []:=rfl;unfold an;have hle:=sN m;by_cases C:Bf m=0
 ·rw[if_pos C]
  rw[C,n0]at g;rw[C];obtain⟨D,E,F,G,H⟩:=hmZ;have l1Z:=Js z Gf m.fr ha D;have l2Z:=Js z jg m.to ha E;have l3Z:=Js z Qg m.su ha F;have l4Z:=pT J Nc m.te ha G;have l5Z:=pT J Uc m.ht ha H;have a:za=4294967296:=rfl;have hF:∀(u:Bool)(l f v:ba),v.length<=10000->f.length<=10000->Hf f=true->l.length+(Ze enc f v).length<=za->da code lib 48 [.ptr 1 0,.flat (.string (S f)),.flat (.string (S v))] [(23,Lb m),(111,bld u 1 l [])] [.cell 1 1]=some ([],false,[(23,Lb m),(111,bld true 1 (l++Ze enc f v) [])],[.cell 1 1]):=fun u l f v A K B h4Z=>o3 (r:=[]) z N O w rfl A K B h4Z (fun q h=>by cases h) (fun q h=>by cases h)
  have d:∀(l:ba)(L:List ba),1<=L.length->L.length<=100->l.length+(Ya L).length<=za->da code lib 49 [.ptr 1 0,.ia L.length (wa L)] [(23,Lb m),(111,bld true 1 l [])] [.cell 1 1]=some ([],false,[(23,Lb m),(111,bld true 1 (l++Ya L) [])],[.cell 1 1]):=fun l L A K B=>CR (r:=[]) w L rfl aa B (fun q h=>by cases h) (fun q h=>by cases h) A
  have e:∀(l kind s:ba),kind.length<=100->s.length<=10000->l.length+(Ya (Wh qp kind s)).length<=za->da code lib 50 [.ptr 1 0,.flat (.string (S kind)),.flat (.string (S s))] [(23,Lb m),(111,bld true 1 l [])] [.cell 1 1]=some ([],false,[(23,Lb m),(111,bld true 1 (l++Ya (Wh qp kind s)) [])],[.cell 1 1]):=fun l kind s A K B=>zaE (r:=[]) w J rfl A K B (fun q h=>by cases h) (fun q h=>by cases h)
  have P:(Ya [Ap,Cp,[]]).length<=100:=ha
  have Q:(Ya [Fq]).length<=100:=ha
  unfold rh;obtain⟨t,c⟩:∃x,Ze enc Gf m.fr=x:=⟨_,rfl⟩;obtain⟨y,i⟩:∃x,Ze enc jg m.to=x:=⟨_,rfl⟩;obtain⟨I,j⟩:∃x,Ze enc Qg m.su=x:=⟨_,rfl⟩;obtain⟨R,k⟩:∃x,Ya (Wh qp Nc m.te)=x:=⟨_,rfl⟩;obtain⟨x5Z,n⟩:∃x,Ya (Wh qp Uc m.ht)=x:=⟨_,rfl⟩;obtain⟨M,o⟩:∃x,Ya [Ap,Cp,[]]=x:=⟨_,rfl⟩;obtain⟨x7Z,p⟩:∃x,Ya [Fq]=x:=⟨_,rfl⟩;have W:=hF false [] Gf m.fr D ha YR (by rw[a];simp only[Ca];omega);rw[c,Ra]at W;rw[c]at l1Z;have X:=hF true t jg m.to E ha aS (by rw[a];omega);rw[i]at X l2Z;have Y:=hF true (t++y) Qg m.su F ha ZR (by rw[a,Ba];omega);rw[j]at Y l3Z;have Z:=d (t++y++I) [Ap,Cp,[]] ha ha (by rw[a,Ba,Ba];omega);rw[o]at Z P;have f5Z:=e (t++y++I++M) Nc m.te ha G (by rw[a];simp only[Ba];omega);rw[k]at f5Z l4Z;have f6Z:=e (t++y++I++M++R) Uc m.ht ha H (by rw[a];simp only[Ba];omega);rw[n]at f6Z l5Z;have f7Z:=d (t++y++I++M++R++x5Z) [Fq] ha ha (by rw[a];simp only[Ba];omega);rw[p]at f7Z Q;have f8Z:=lk (lib:=lib) (bx:=[(23,Lb m),(111,bld true 1 (t++y++I++M++R++x5Z++x7Z) [])]) (oc:=[.cell 1 1]) (b:=1) (u:=true) (rest:=[]) w rfl ea;rw[c,i,j,k,n,o,p];clear hF d e c i j k n o p z J N U T O w V;simp only[Lb,Fx,wa,gc,Ve,ua,Ca,ld,Nat.reduceAdd,Ap,Cp,Fq,Gf,jg,Qg,Nc,Uc,vc]at g W X Y Z f5Z f6Z f7Z f8Z⊢;refine la AN (qa rfl) ?_;exact sa
 ·rw[if_neg C]
  simp only[Lb]at g⊢;have a:=eq_false C;refine la AN (qa rfl) ?_;exact sa
def ze6(l):(trimB l).length<=l.length:=by
 unfold trimB pk;rw[List.length_reverse];refine Xf (List.dropWhile_suffix _).length_le ?_;rw[List.length_reverse];exact(List.dropWhile_suffix _).length_le
def Bt(v:ba)(h:v.length<=250):(Ci (Qc v)).length<=10000:=by
 have b:(Qc v).length<=(vf v).length:=ze6 _;have c:∀a:List ba,(be a).length<=Re a:=fun a=>by
  induction a with
  |nil=>simp[be]
  |cons w a g=>
   have e2:Re (w::a)=w.length+3+Re a:=by simp[Re]
   rw[rt,e2];simp only[ua,Ba];omega
 have d:=UV v h;have e:=c (Ad Na v);unfold vf at b;unfold Ci;simp only[Ba,ua,Ca];omega
def zbV(x:Wi lib Na)(A:bq lib (eb 0))(d:We lib)(y:Xt lib)(w:Vt lib)(e:sc lib)(c:Sb lib)(z:Yt lib)
 (B:Zt lib) (b:Wt lib) (a:Xi lib) (k:Xw lib) (l:jm lib) (j:Mr lib) (m:kc) (r:m.Jm) (t:Bf m=0):
 da code lib 7 [.flat (.string (S (rh Na (eb 0) m)))] [] []=some ([.agg (Lb m),.flat (.int .i64 0)],false,[],[]):=by
 obtain⟨K,L,M⟩:=zbT t;have u:=r;obtain⟨D,E,F,R,T⟩:=u;have e1:=zaB B m r;have e2:=mX x A d y w e c z m ⟨aa,aa,aa,aa,aa⟩;unfold an at e2;rw[t,if_pos rfl]at e2;have o:=dE d e b a k c l j (Ci (Qc m.fr)) (Bt _ D);have p:=dE d e b a k c l j (Ci (Qc m.to)) (Bt _ E);have q:=dE d e b a k c l j (Ci (Qc m.su)) (Bt _ F);have g1:=Bt _ D;have C:=Bt _ E;have g3:=Bt _ F;have N:=nK m r;rw[K]at o;rw[L]at p;rw[M]at q;clear K L M x A d y w e c z B b a k l j r t;generalize rh Na (eb 0) m=s at*;obtain⟨v1Z,g⟩:∃v,Qc m.fr=v:=⟨_,rfl⟩;obtain⟨v2Z,h⟩:∃v,Qc m.to=v:=⟨_,rfl⟩;obtain⟨v3,i⟩:∃v,Qc m.su=v:=⟨_,rfl⟩;simp only[ii,yp,Qe,g,h,i,Ha,Ra]at e1 o p q g1 C g3;obtain⟨U,V,W,X,Y⟩:=m;clear g h i;dsimp only at e1 e2 o p q;have I:=Lq (li Nc);have J:=Lq (li Uc);have G:=fun n=>gp (n:=n) (li Nc)
 have H:=fun n=>gp (n:=n) (li Uc)
 generalize Jg (li Nc)=Q at*;generalize Jg (li Uc)=P at*;generalize ko Nc=Z at*;generalize ko Uc=t2 at*;simp only[Pm,Jg,Gf,jg,Qg,Xo,Wk,Qn]at e1;simp only[Ci,Ha,Ra,vc]at o p q;simp only[Ci,Ba,ua,Ca]at g1 C g3;have O:za=4294967296:=rfl;simp only[Lb]at e2⊢;refine la uY (qa rfl) ?_;exact Bs @BEq.rfl.{0} @Rc @ec @pc @Ec y_ @Ba.{0} @ua.{0} @Ca.{0}
def zbU(b:sc lib)(a:Sb lib){s:ba}{m:kc}{l:List Tok}(c:m.Jm)(ht:Ni m.ht=some l)
 (d:da code lib 7 [.flat (.string (S s))] [] []=some ([.agg (Lb m),.flat (.int .i64 0)],false,[],[])):
 da code lib 24 [.flat (.int .i64 1),.flat (.string (S s))] [] []=some ([.tag 245 [.agg (Lb m++[.ia l.length (uc l)])],.flat (.int .i64 0)],false,[],[]):=by
 have i:(⟨#[]⟩:ByteArray)=S []:=rfl;have h:=c.2.2.2.2;have e2:=qV b a m.ht aa;rw[ht]at e2;dsimp only at e2;have e:=fun n=>dn (n:=n) l
 have g:=nw l;clear b a c ht;simp only[Lb,Ha,Ra]at d⊢;exact Fa SN
def zcK(a:Sb lib){m:kc}{l:List Tok}{y:ba}(b:l.length<=10000)(hs:∀t∈l,vr 300 t)
 (hr:da code lib 24 [.flat (.int .i64 1),.flat (.string (S y))] [] []=some ([.tag 245 [.agg (Lb m++[.ia l.length (uc l)])],.flat (.int .i64 0)],false,[],[])):
 da code lib 11 [.flat (.int .i64 1),.flat (.string (S y))] [] []=some ([.flat (.string (S (qt l))),.flat (.int .i64 0)],false,[],[]):=by
 have e:(⟨#[]⟩:ByteArray)=S []:=rfl;have e1:=zcJ a m l b hs;have c:=fun n=>dn (n:=n) l
 have d:=nw l;clear hs;simp only[Lb,Ha,Ra]at hr e1;exact Fa PN
def oT{qp}(a:bq lib qp)(b:nB lib qp)(kind s:ba)(e:kind.length<=100)(hs:s.length<=10000):da code lib 31 [.flat (.string (S kind)),.flat (.string (S s))] [] []=some ([.flat (.string (S (Ya [fj++kind++ej,gj,[],qp s])))],false,[],[]):=by
 have h:da code lib 67 [.flat (.string (S s))] [] []=some ([.flat (.string (S (qp s)))],false,[],[]):=Ef ha ca (b s hs);have g:=(a s hs).1;have d:(⟨#[]⟩:ByteArray)=S []:=rfl;have c:za=4294967296:=rfl;refine la AZ (qa rfl) ?_;simp only[Ya,crlf,fj,ej,gj,vc,Ha,Ra];exact va @Ba.{0}
set_option maxRecDepth 100000 in
def kK{enc qp}(b:Wi lib enc)(a:Nr lib enc)(h:bq lib qp)(p:nB lib qp)(m)(u:m.small):da code lib 16 [.agg (Lb m)] [] []=some ([.flat (.string (S (an enc qp m))),.flat (.int .i64 (Bf m:Nat))],false,[],[]):=by
 have c:=hY (lib:=lib) m u;have A:(⟨#[]⟩:ByteArray)=S []:=rfl;unfold an;have z:=sN m;by_cases i:Bf m=0
 ·rw[if_pos i]
  rw[i,n0]at c;rw[i];obtain⟨j,k,l,n,o⟩:=u;have B:=Js b Gf m.fr ha j;have C:=Js b jg m.to ha k;have D:=Js b Qg m.su ha l;have E:=(h m.te n).1;have F:=(h m.ht o).1;have y:za=4294967296:=rfl;have q:=gJ b a Gf m.fr j ha;have r:=gJ b a jg m.to k ha;have t:=gJ b a Qg m.su l ha;have v:=oT h p Nc m.te ha n;have w:=oT h p Uc m.ht ha o;unfold rh;simp only[YR,aS,ZR,if_true]at q r t;obtain⟨G,d⟩:∃x,Ze enc Gf m.fr=x:=⟨_,rfl⟩;obtain⟨H,e⟩:∃x,Ze enc jg m.to=x:=⟨_,rfl⟩;obtain⟨I,g⟩:∃x,Ze enc Qg m.su=x:=⟨_,rfl⟩;rw[d]at q B;rw[e]at r C;rw[g]at t D;rw[d,e,g];clear b a h p d e g;simp only[Lb,Wh,Ya,crlf,fj,ej,gj,uv,Ap,Cp,Fq,Gf,jg,Qg,Nc,Uc,vc,Ha,Ra]at c q r t v w⊢;refine la MN (qa rfl) ?_;exact va @Ba.{0}
 ·rw[if_neg i]
  simp only[Lb]at c⊢;have d:=eq_false i;refine la MN (qa rfl) ?_;exact sa
structure cq (lib:Callee):Prop where
 b64:Wi lib Na
 qp:bq lib (eb 0)
 NH:Nr lib Na
 rq:nB lib (eb 0)
 idx:We lib
 last:Xt lib
 dO:Vt lib
 pre:sc lib
 bld:Sb lib
 nest:Yt lib
 parse:Zt lib
 cut:Wt lib
 Yo:Xi lib
 rep:Xw lib
 hy:jm lib
 dec:Mr lib
 shape:fq lib
 ind:aq lib
 ID:Zp lib
def Km(s:ba)(hs:s.length<=9223372036854775807):da code lib 15 [.flat (.string (S s))] [] []=some ([.flat (.string (S (s.take 200)))],false,[],[]):=by
 refine la DZ (qa rfl) ?_;by_cases h:s.length<=200
 ·have e:min (s.length:Int) 200=s.length:=aa
  rw[uk h];exact sa
 ·have e:min (s.length:Int) 200=200:=aa
  have e2:(200:Int).toNat=200:=rfl;exact sa
def WR(L:cq lib)(m:kc)(e:m.Jm)(i:m.ht.length<=200)(g:Bf m=0){l}(d:Ni m.ht=some l):
 da code lib 11 [.flat (.int .i64 1),.flat (.string (S (rh Na (eb 0) m)))] [] []=some ([.flat (.string (S (qt l))),.flat (.int .i64 0)],false,[],[]):=by
 have e1:=zbV L.b64 L.qp L.idx L.last L.dO L.pre L.bld L.nest L.parse L.cut L.Yo L.rep L.hy L.dec m e g;have j:=GI d;exact zcK L.bld aa (fun t ht=>by
  obtain⟨a,b,c⟩:=ze3 d t ht;exact⟨aa,aa,fun x h=>by have:=c x h;omega⟩) (zbU L.pre L.bld e d e1)
def kY{m:kc}(h:Bf m=0):∃l,Ni m.ht=some l:=by
 unfold Bf ct at h;cases a:Ni m.ht with
 |some l=>exact⟨l,rfl⟩
 |none=>rw[a]at h;simp at h;split at h<;>cases h
def qE(L:cq lib)(f:Bool){rc bd:ba}(a:rc.length<=1000)(b:bd.length<=1000)(c:Sf rc bd=0){l}(ht:Gh bd=some l):
 da code lib 11 [.flat (.int .i64 2),.flat (.string (S (Bi f rc bd)))] [] []=some ([.flat (.string (S (fo l))),.flat (.int .i64 0)],false,[],[]):=by
 have hr:=QT L.idx L.pre L.bld L.shape L.Yo L.ind L.ID L.hy f a b c ht;exact zcI L.bld f (by have:=qw ht;omega) (fun t h=>by have:=ze4 ht t h;omega) hr
def rA:ba:=[114]
def vm:ba:=[123,34,97,34,58,91,34,120,34,44,49,93,125]
def uw:List ba:=[rA,vm,[97],[120]]
def tU:ba:=[123,34,34,58,91,34,34,44,49,93,125]
def J2:(Gh vm).map (fun l=>(zr rA vm l,fo l))=some (uw,tU):=Fb
def TD:Sf rA vm=0:=Fb
set_option maxRecDepth 100000 in
def IW(L:cq lib):da code lib 14 [] [] []=some ([.flat (.bool true)],false,[],[]):=by
 obtain⟨l,a,b⟩:=qm J2;simp only[Prod.mk.injEq]at b;have e1:=NC (lib:=lib) false rA vm ha ha;rw[TD,if_pos rfl]at e1;have e2:=qE L false (rc:=rA) (bd:=vm) ha ha TD a;have hr:=QT L.idx L.pre L.bld L.shape L.Yo L.ind L.ID L.hy false (rc:=rA) (bd:=vm) ha ha TD a;have c:=qw a;have e3:=zeY (lib:=lib) false (by have:vm.length=13:=rfl;omega) hr;rw[b.1]at e3;rw[b.2]at e2;have e4:da code lib 13 [.ia 4 (wa uw),.ia 4 (wa uw)] [] []=some ([.flat (.bool true)],false,[],[]):=Wj ca;clear hr b c a L;generalize Bi false rA vm=y at*;simp only[show uw.length=4 from rfl]at e3;simp only[show wa uw=[.flat (.string (S [114])),.flat (.string (S [123,34,97,34,58,91,34,120,34,44,49,93,125])),.flat (.string (S [97])),.flat (.string (S [120]))]from rfl]at e3 e4;simp only[rA,vm,n0]at e1;unfold tU at e2;exact Fa CZ
def Ub(f:Bool)(rc bd:ba):List PV:=[.flat (.bool f),.flat (.string (S rc)),.flat (.string (S bd))]
def uI(m n:kc)(f:Bool)(rc bd:ba)(su te r2:ba):St:=⟨[(2,.flat (.string (S su))),(3,.flat (.string (S te))),(4,.flat (.string (S r2))),(5,.ptr 0 0),(6,.ptr 1 0),(11,.ptr 2 0),(12,.ptr 3 0)],[],[],[(23,Lb m),(40,Ub f rc bd),(23,Lb n),(40,Ub f rc bd)]⟩
def vI(m n:kc)(f:Bool)(rc bd:ba)(su te r2:ba):St:=⟨[(2,.flat (.string (S su))),(3,.flat (.string (S te))),(4,.flat (.string (S r2))),(5,.ptr 0 0),(6,.ptr 1 0),(11,.ptr 3 0),(12,.ptr 2 0)],[],[],[(23,Lb m),(40,Ub f rc bd),(40,Ub f rc bd),(23,Lb n)]⟩
def kc.qd(m:kc):kc:=⟨m.fr.take 200,m.to.take 200,m.su.take 200,m.te.take 200,m.ht.take 200⟩
def oP(m:kc):m.qd.Jm:=by
 unfold kc.qd kc.Jm;simp only[Se];omega
def pP(m:kc):m.qd.small:=by
 unfold kc.qd kc.small;simp only[Se];omega
def f4{cf:Callee}{live}{Q:St->Prop}{st}:FT cf live Q .done st=Q (st.Ye live):=rfl
def cv(cf:Callee)(live:List Nat)(Q:St->Prop)(t:BT):Option St->Prop
 |some s=>FT cf live Q t s
 |none=>False
def J6{cf:Callee}{live}{Q:St->Prop}{t}{s}:cv cf live Q t (some s)=FT cf live Q t s:=rfl
def OP{cf:Callee}{live}{Q:St->Prop}{t}{x:Option St}:(∃s,x=some s/\FT cf live Q t s)=cv cf live Q t x:=by
 cases x<;>simp[cv]
def h4{cf:Callee}{live}{Q:St->Prop}{o t st}:FT cf live Q (.one o t) st=cv cf live Q t (stepG cf st o):=OP
def i4{cf:Callee}{live}{Q:St->Prop}{o t r st}:FT cf live Q (.two o t r) st=(cv cf live Q t (stepG cf st o)/\FT cf live Q r st):=by
 show((∃s,_/\_)/\_)=_;rw[OP]
def cJ{cf:Callee}{n x y}{Q:Out->St->Prop}{st s}(h:ma cf n x st=some (.normal,s))(k:Wp cf n y Q s):Wp cf n (.seq x y) Q st:=Dy x h k
def tB(lib:Callee)(c:Nat)(a b:ba)(i j:Nat):Prop:=i≠0\/(i=0/\j≠0)\/(i=0/\j=0/\∃x:ba,da code lib 11 [.flat (.int .i64 (c:Nat)),.flat (.string (S a))] [] []=some ([.flat (.string (S x)),.flat (.int .i64 0)],false,[],[])/\da code lib 11 [.flat (.int .i64 (c:Nat)),.flat (.string (S b))] [] []=some ([.flat (.string (S x)),.flat (.int .i64 0)],false,[],[]))
def tW(L:cq lib)(m:kc)(su te:ba)(hs:su.length<=200)(ht:te.length<=200):tB lib 1 (an Na (eb 0) m.qd) (an Na (eb 0) ⟨m.qd.fr,m.qd.to,su,te,m.qd.ht⟩) (Bf m.qd) (Bf ⟨m.qd.fr,m.qd.to,su,te,m.qd.ht⟩):=by
 obtain⟨c,d,g,h,e⟩:=oP m;by_cases c1:Bf m.qd=0
 ·by_cases c2:Bf ⟨m.qd.fr,m.qd.to,su,te,m.qd.ht⟩=0
  ·obtain⟨l,b⟩:=kY c1
   have a:m.qd.ht.length<=200:=by unfold kc.qd;simp only[Se];omega
   unfold an;rw[if_pos c1,if_pos c2];exact .inr (.inr ⟨c1,c2,qt l,WR L m.qd (oP m) a c1 b,WR L ⟨m.qd.fr,m.qd.to,su,te,m.qd.ht⟩ ⟨c,d,Hg,Hg,e⟩ a c2 b⟩)
  ·exact .inr (.inl ⟨c1,c2⟩)
 ·exact .inl c1
def sW(L:cq lib)(f:Bool)(rc r2 bd:ba)(b:rc.length<=200)(c:r2.length<=200)(d:bd.length<=200):tB lib 2 (if Sf rc bd=0 then Bi f rc bd else[]) (if Sf r2 bd=0 then Bi (!f) r2 bd else[]) (Sf rc bd) (Sf r2 bd):=by
 by_cases c1:Sf rc bd=0
 ·by_cases c2:Sf r2 bd=0
  ·obtain⟨_,l,_,a,_⟩:=XC c1
   rw[if_pos c1,if_pos c2];exact .inr (.inr ⟨c1,c2,fo l,qE L f aa aa c1 a,qE L (!f) aa aa c2 a⟩)
  ·exact .inr (.inl ⟨c1,c2⟩)
 ·exact .inl c1
def q8(L:cq lib)(m:kc)(f:Bool)(rc bd su te r2:ba)(N:m.fr.length<=9223372036854775807)(O:m.to.length<=9223372036854775807)(P:m.su.length<=9223372036854775807)(R:m.te.length<=9223372036854775807)(T:m.ht.length<=9223372036854775807)
 (U:rc.length<=9223372036854775807) (V:bd.length<=9223372036854775807) (W:su.length<=9223372036854775807) (X:te.length<=9223372036854775807) (z:r2.length<=9223372036854775807):
 Wp (da code lib) ja Lx.body (fun o s=>Uj [.inl 10] [] (some (o,s))=some ([.flat (.bool true)],false,[],[])) ⟨yh 0 [.agg (Lb m),.agg (Ub f rc bd),.flat (.string (S su)),.flat (.string (S te)),.flat (.string (S r2))],[],[],[]⟩:=by
 have hzZ:(⟨#[]⟩:ByteArray)=S []:=rfl;have Y:=Km (lib:=lib) m.fr N;have k2Z:=Km (lib:=lib) m.to O;have k3Z:=Km (lib:=lib) m.su P;have k4Z:=Km (lib:=lib) m.te R;have k5Z:=Km (lib:=lib) m.ht T;have k6Z:=Km (lib:=lib) rc U;have k7Z:=Km (lib:=lib) bd V;have k8Z:=Km (lib:=lib) su W;have k9Z:=Km (lib:=lib) te X;have Z:=Km (lib:=lib) r2 z;have t:∀s:ba,(s.take 200).length<=200:=fun s=>by rw[Se];omega
 have v:=kK L.b64 L.NH L.qp L.rq m.qd (pP m);have w:=kK L.b64 L.NH L.qp L.rq ⟨m.qd.fr,m.qd.to,su.take 200,te.take 200,m.qd.ht⟩ (by
  have:=pP m;have:=t su;have:=t te;unfold kc.small at*;dsimp only at*;omega)
 have p:=NC (lib:=lib) f (rc.take 200) (bd.take 200) (by have:=t rc;omega) (by have:=t bd;omega);have q:=NC (lib:=lib) (!f) (r2.take 200) (bd.take 200) (by have:=t r2;omega) (by have:=t bd;omega);have n:=tW L m (su.take 200) (te.take 200) (t su) (t te);have a:=sW L f (rc.take 200) (r2.take 200) (bd.take 200) (t rc) (t r2) (t bd);have hAZ:=IW L;clear L t;generalize an Na (eb 0) m.qd=A at*;generalize an Na (eb 0) ⟨m.qd.fr,m.qd.to,su.take 200,te.take 200,m.qd.ht⟩=B at*;generalize Bf m.qd=H at*;generalize Bf ⟨m.qd.fr,m.qd.to,su.take 200,te.take 200,m.qd.ht⟩=I at*;generalize (if Sf (rc.take 200) (bd.take 200)=0 then Bi f (rc.take 200) (bd.take 200)else[])=C at*;generalize (if Sf (r2.take 200) (bd.take 200)=0 then Bi (!f) (r2.take 200) (bd.take 200)else[])=D at*;generalize Sf (rc.take 200) (bd.take 200)=r at*;generalize Sf (r2.take 200) (bd.take 200)=u at*;obtain⟨fr,K,J,M,ht⟩:=m;simp only[Lb,kc.qd]at v w Y k2Z k3Z k4Z k5Z⊢;simp only[Ub];generalize fr.take 200=b at*;generalize K.take 200=e at*;generalize J.take 200=d at*;generalize M.take 200=g at*;generalize ht.take 200=c at*;generalize rc.take 200=l at*;generalize bd.take 200=k at*;generalize su.take 200=su' at*;generalize te.take 200=te' at*;generalize r2.take 200=r2' at*;unfold Lx;dsimp only;refine cJ (s:=⟨[(2,.flat (.string (S su))),(3,.flat (.string (S te))),(4,.flat (.string (S r2))),(5,.ptr 0 0),(6,.ptr 1 0)],[],[],[(23,Lb ⟨fr,K,J,M,ht⟩),(40,Ub f rc bd)]⟩) (by unfold Lb Ub;exact sa) ?_;refine cJ (s:=⟨[(2,.flat (.string (S su))),(3,.flat (.string (S te))),(4,.flat (.string (S r2))),(5,.ptr 0 0),(6,.ptr 1 0)],[],[],[(23,Lb ⟨b,e,d,g,c⟩),(40,Ub f rc bd)]⟩) (by unfold Lb Ub;exact sa) ?_;refine cJ (s:=⟨[(2,.flat (.string (S su))),(3,.flat (.string (S te))),(4,.flat (.string (S r2))),(5,.ptr 0 0),(6,.ptr 1 0)],[],[],[(23,Lb ⟨b,e,d,g,c⟩),(40,Ub f l k)]⟩) (by unfold Lb Ub;exact sa) ?_;refine⟨⟨[(54,.agg (Lb ⟨b,e,d,g,c⟩)),(2,.flat (.string (S su))),(3,.flat (.string (S te))),(4,.flat (.string (S r2))),(5,.ptr 0 0),(6,.ptr 1 0)],[],[],[(23,Lb ⟨b,e,d,g,c⟩),(40,Ub f l k)]⟩,(by unfold Lb Ub;exact sa),?_⟩;unfold tB at n a;refine(show∀Q:St->Prop,Q (uI ⟨b,e,d,g,c⟩ ⟨b,e,d,g,c⟩ f l k su te r2)->Q (vI ⟨b,e,d,g,c⟩ ⟨b,e,d,g,c⟩ f l k su te r2)->FT (da code lib) _ Q _ _ from ?hf) _ ?ga ?gb
 case hf=>
  intro Q q1Z q2Z;unfold uI Lb Ub at q1Z;unfold vI Lb Ub at q2Z;unfold Lb Ub;clear n a;exact xg @f4 @J6 @h4 @i4
 case ga=>
  refine WT ?_;unfold uI Lb Ub;rcases n with n|⟨rfl,n⟩|⟨rfl,rfl,x,E,F⟩
  ·have G:((H:Int)=0)=False:=by apply eq_false;omega
   rcases a with a|⟨rfl,a⟩|⟨rfl,rfl,y,h,i⟩
   ·have j:((r:Int)=0)=False:=by apply eq_false;omega
    exact sa
   ·have j:((u:Int)=0)=False:=by apply eq_false;omega
    exact sa
   ·simp only[show((2:Nat):Int)=2 from rfl,n0]at h i p q
    exact sa
  ·have G:((I:Int)=0)=False:=by apply eq_false;omega
   rcases a with a|⟨rfl,a⟩|⟨rfl,rfl,y,h,i⟩
   ·have j:((r:Int)=0)=False:=by apply eq_false;omega
    exact sa
   ·have j:((u:Int)=0)=False:=by apply eq_false;omega
    exact sa
   ·simp only[show((2:Nat):Int)=2 from rfl,n0]at h i p q
    exact sa
  ·simp only[show((1:Nat):Int)=1 from rfl,n0]at E F v w
   rcases a with a|⟨rfl,a⟩|⟨rfl,rfl,y,h,i⟩
   ·have j:((r:Int)=0)=False:=by apply eq_false;omega
    exact sa
   ·have j:((u:Int)=0)=False:=by apply eq_false;omega
    exact sa
   ·simp only[show((2:Nat):Int)=2 from rfl,n0]at h i p q
    exact sa
 case gb=>
  refine WT ?_;unfold vI Lb Ub;rcases n with n|⟨rfl,n⟩|⟨rfl,rfl,x,E,F⟩
  ·have G:((H:Int)=0)=False:=by apply eq_false;omega
   rcases a with a|⟨rfl,a⟩|⟨rfl,rfl,y,h,i⟩
   ·have j:((r:Int)=0)=False:=by apply eq_false;omega
    exact sa
   ·have j:((u:Int)=0)=False:=by apply eq_false;omega
    exact sa
   ·simp only[show((2:Nat):Int)=2 from rfl,n0]at h i p q
    exact sa
  ·have G:((I:Int)=0)=False:=by apply eq_false;omega
   rcases a with a|⟨rfl,a⟩|⟨rfl,rfl,y,h,i⟩
   ·have j:((r:Int)=0)=False:=by apply eq_false;omega
    exact sa
   ·have j:((u:Int)=0)=False:=by apply eq_false;omega
    exact sa
   ·simp only[show((2:Nat):Int)=2 from rfl,n0]at h i p q
    exact sa
  ·simp only[show((1:Nat):Int)=1 from rfl,n0]at E F v w
   rcases a with a|⟨rfl,a⟩|⟨rfl,rfl,y,h,i⟩
   ·have j:((r:Int)=0)=False:=by apply eq_false;omega
    exact sa
   ·have j:((u:Int)=0)=False:=by apply eq_false;omega
    exact sa
   ·simp only[show((2:Nat):Int)=2 from rfl,n0]at h i p q
    exact sa
end ya
namespace Go.Proofs.YtglaihdcndcmkaaGreatDoor
def fW(w:World)(g o:Nat)(t:Qa):Prop:=w.cell? ⟨g,o,none⟩=some (.int .u8 t.kind.toNat)/\w.cell? ⟨g,o+1,none⟩=some (.string (S t.text))/\w.cell? ⟨g,o+2,none⟩=some (.int .i64 (t.fr:Nat))/\w.cell? ⟨g,o+3,none⟩=some (.int .i64 (t.to:Nat))
def kJ(w:World)(a:Option Addr)(L:List Qa):Prop:=L=[]\/∃g o,a=some ⟨g,o,none⟩/\g<w.heap.size/\∀k t,L[k]?=some t->fW w g (o+k* 4) t
def pd(l:List UInt8):List Value:=l.map fun b=>.int .u8 b.toNat
def Mm:(Tryz.prog.info? 5).map (fun i=>(i.zero,i.size,i.bytes))=some (some (.int .u8 0),1,1):=ca
theorem zcA{op:List UInt8}{D W:Nat}{c:UInt8}{i}(h:Ag (op,D,W) c=some i):
 (∃x r,op=x::r/\(W=1\/W=3\/W=5)/\((x.toNat=123/\c.toNat=125)\/(x.toNat≠123/\c.toNat=93))/\i=(r,D,5))\/
 ((W=0\/W=1)/\(c.toNat=91\/c.toNat=123)/\i=(c::op,max D (op.length+1),if c.toNat=123 then 3 else 1))\/
 ((W=0\/W=1)/\(c.toNat=34\/c.toNat=48\/c.toNat=97)/\i=(op,max D (op.length+1),5))\/
 ((W=2\/W=3)/\c.toNat=34/\i=(op,D,4))\/(W=4/\c.toNat=58/\i=(op,D,0))\/∃x r,op=x::r/\W=5/\c.toNat=44/\i=(op,D,if x.toNat=123 then 2 else 0):=by
 have e:∀(a:UInt8)(b:UInt8),(a=b)=(a.toNat=b.toNat):=fun a b=>by rw[Xb]
 unfold Ag at h;dsimp only at h;by_cases d:(W=1\/W=3\/W=5)/\(op≠[]/\c=(if op.head?=some 123 then 125 else 93))
 ·rw[if_pos d]at h
  obtain⟨d,n,j⟩:=d;cases op with
  |nil=>exact absurd rfl n
  |cons x r=>
   left;have:=jf h;subst this;refine⟨x,r,rfl,d,?_,rfl⟩;simp only[List.head?_cons,Wb]at j;by_cases g:x=123
   ·rw[if_pos g]at j;exact .inl ⟨by rw[g];rfl,by rw[j];rfl⟩
   ·rw[if_neg g]at j;exact .inr ⟨fun k=>g (Xb.1 k),by rw[j];rfl⟩
 rw[if_neg d]at h;right;by_cases d:(W=0\/W=1)/\If c=true
 ·rw[if_pos d]at h
  have:=jf h;subst this;left;have l:c=91\/c=123:=by simpa[If]using d.2
  refine⟨d.1,by rcases l with rfl|rfl<;>decide,?_⟩;rcases l with rfl|rfl<;>rfl
 rw[if_neg d]at h;right;by_cases d:(W=0\/W=1)/\zh c=true
 ·rw[if_pos d]at h
  have:=jf h;subst this;left;have l:c=34\/c=48\/c=97:=by simpa[zh]using d.2
  exact⟨d.1,by rcases l with rfl|rfl|rfl<;>decide,rfl⟩
 rw[if_neg d]at h;right;by_cases d:(W=2\/W=3)/\c=34
 ·rw[if_pos d]at h
  have:=jf h;subst this;exact .inl ⟨d.1,by rw[d.2];rfl,rfl⟩
 rw[if_neg d]at h;right;by_cases d:W=4/\c=58
 ·rw[if_pos d]at h
  have:=jf h;subst this;exact .inl ⟨d.1,by rw[d.2];rfl,rfl⟩
 rw[if_neg d]at h;right;by_cases d:W=5/\c=44/\op≠[]
 ·rw[if_pos d]at h
  have:=jf h;subst this;cases op with
  |nil=>exact absurd rfl d.2.2
  |cons x r=>
   refine⟨x,r,rfl,d.1,by rw[d.2.1];rfl,?_⟩;simp only[List.head?_cons,Wb];by_cases g:x=123
   ·subst g;rfl
   ·rw[if_neg g,if_neg (fun k=>g (Xb.1 k):¬x.toNat=123)]
 ·rw[if_neg d]at h;cases h
set_option maxRecDepth 100000 in
def zcF(L:List Qa)(a)(cap)(w)(hr:kJ w a L)(hLZ:L.length<=100000)(d:Nat)(hs:Xh L ([],0,0)=some ([],d,5)):Calls Tryz.prog 282 #[.slice a L.length cap] w fun e w'=>e=.returned (.int .i64 (d:Nat))/\Below w.heap.size w w':=by
 have HRZ:=Lib.hid hr;have HSZ:=Lib.hid hs;clear hr hs
 go_enter Tryz.func282,Tryz.ntmps282
 repeat (first|go_values|go_skip|go_guarded|go_step|go_upon)
 go_loopw [3,4,5,13] (fun v dpZ wnZ i wr=>∃(k:Nat)(op:List UInt8)(D W:Nat),i=.int .i64 k/\dpZ=.int .i64 D/\wnZ=.int .i64 W/\k<=L.length/\op.length<=k/\D<=k+1/\wr.ownsRow w.heap.size 5 1 v op.length (pd op.reverse)/\Below w.heap.size w wr/\Hid (Xh (L.drop k) (op,D,W)=some ([],d,5))/\Hid (op=[]->(v=.slice none 0 0/\W=0)\/W=5))
  (fun _ _ _ i _=>L.length - (intOf i).toNat)
 case atStart=>exact⟨0,[],0,0,rfl,rfl,rfl,Cb _,ea,aa,cB _ _ _ _,Below.refl _ _,Lib.hid (by rw[yf];exact HSZ.out),Lib.hid fun _=>.inl ⟨rfl,rfl⟩⟩
 case round=>
  obtain⟨k,op,D,W,rfl,rfl,rfl,hkZ,hop,hDZ,E,j,hst,P⟩:=hrel;by_cases fa:k<L.length
  ·obtain⟨g,o,rfl,hgZ,hrow⟩:=HRZ.out.resolve_left (by intro h;rw[h]at fa;simp at fa)
   have hcZ:=qe fa;obtain⟨t,ht⟩:∃t,L[k]=t:=⟨_,rfl⟩;rw[ht]at hcZ;obtain⟨c0Z,c1,c2,c3⟩:=hrow k t hcZ;have q0Z:=(j.cell (p:=⟨g,o+k* 4,none⟩) hgZ).trans c0Z;have q1Z:=(j.cell (p:=⟨g,o+k* 4+1,none⟩) hgZ).trans c1;have q2Z:=(j.cell (p:=⟨g,o+k* 4+2,none⟩) hgZ).trans c2;have q3Z:=(j.cell (p:=⟨g,o+k* 4+3,none⟩) hgZ).trans c3;have hgwr:=mh hgZ j.size;have u:=j.size;have G:=hst.out;rw[eo hcZ]at G;cases hTZ:Ag (op,D,W) t.kind with
   |none=>rw[hTZ]at G;cases G
   |some b=>
   rw[hTZ,Ja]at G;have hcs:=zcA hTZ;obtain⟨n,hnZ⟩:∃n,t.kind.toNat=n:=⟨_,rfl⟩;rw[hnZ]at q0Z hcs;have c6Z:Tryz.prog.cellsOf 203=4:=ca
   have c7Z:Tryz.prog.cellsOf 5=1:=ca
   have S:=Lib.hid hnZ;have H:=Lib.hid G;clear c0Z c1 c2 c3 hrow hcZ ht hTZ hnZ hst G;by_cases h0Z:op=[]
   ·subst h0Z
    have z:=Lib.hid E;clear E;rcases hcs with⟨x,r,h,_⟩|⟨I,K,rfl⟩|⟨I,K,rfl⟩|⟨I,K,rfl⟩|⟨I,K,rfl⟩|⟨x,r,h,_⟩
    ·cases h
    ·obtain⟨rfl,rfl⟩:=(P.out rfl).resolve_right aa
     clear I P hop;rcases K with rfl|rfl
     ·as_aux_lemma=>
       repeat (first|(at_builtin;refine Gi ra _ _ _ ra 5 _ 1 1 Tryz.underlying99 Mm ra aa w.heap.size _ _ _ _ ra (z.out.alloc _) [.int .u8 91] ra (by simp[Value.oneCell']) (by show Value.slice (some ⟨wr.heap.size+1,0,none⟩) 1 1=_;simp) ea ea Ma ?_;intro U C Y N c q l F;have B:=Lib.hid c;have A:=Lib.hid l;clear c l q)|go_values|go_skip|go_guarded|go_step|go_upon)
       exact⟨⟨k+1,[t.kind],max D 1,1,(by first|rfl|(simp;done)|(simp;omega)|(congr 1;omega)),(by first|rfl|(simp;done)|(simp;omega)|(congr 1;omega)),(by first|rfl|(simp;done)|(simp;omega)|(congr 1;omega)),fa,ea,aa,by rw[show pd [t.kind].reverse=[.int .u8 91]from by simp[pd,S.out]];exact B.out,(j.alloc u _).trans (A.out.mono aa),H,Lib.hid ea⟩,(by first|(simp[intOf];done)|(simp[intOf];omega))⟩
     ·as_aux_lemma=>
       repeat (first|(at_builtin;refine Gi ra _ _ _ ra 5 _ 1 1 Tryz.underlying99 Mm ra aa w.heap.size _ _ _ _ ra (z.out.alloc _) [.int .u8 123] ra (by simp[Value.oneCell']) (by show Value.slice (some ⟨wr.heap.size+1,0,none⟩) 1 1=_;simp) ea ea Ma ?_;intro U C Y N c q l F;have B:=Lib.hid c;have A:=Lib.hid l;clear c l q)|go_values|go_skip|go_guarded|go_step|go_upon)
       exact⟨⟨k+1,[t.kind],max D 1,3,(by first|rfl|(simp;done)|(simp;omega)|(congr 1;omega)),(by first|rfl|(simp;done)|(simp;omega)|(congr 1;omega)),(by first|rfl|(simp;done)|(simp;omega)|(congr 1;omega)),fa,ea,aa,by rw[show pd [t.kind].reverse=[.int .u8 123]from by simp[pd,S.out]];exact B.out,(j.alloc u _).trans (A.out.mono aa),H,Lib.hid ea⟩,(by first|(simp[intOf];done)|(simp[intOf];omega))⟩
    ·obtain⟨rfl,rfl⟩:=(P.out rfl).resolve_right aa
     clear I P hop;rcases K with rfl|rfl|rfl
     all_goals as_aux_lemma=>
      repeat (first|go_values|go_skip|go_guarded|go_step|go_upon)
      exact⟨⟨k+1,[],max D 1,5,(by first|rfl|(simp;done)|(simp;omega)|(congr 1;omega)),(by first|rfl|(simp;done)|(simp;omega)|(congr 1;omega)),(by first|rfl|(simp;done)|(simp;omega)|(congr 1;omega)),fa,ea,aa,z.out.alloc _,j.alloc u _,H,Lib.hid fun _=>.inr rfl⟩,(by first|(simp[intOf];done)|(simp[intOf];omega))⟩
    ·exfalso;rcases P.out rfl with⟨_,h⟩|h<;>omega
    ·exfalso;rcases P.out rfl with⟨_,h⟩|h<;>omega
    ·cases h
   ·obtain⟨x,r,X⟩:=List.exists_cons_of_ne_nil h0Z
    obtain⟨m,V⟩:∃m,r.length=m:=⟨_,rfl⟩;have T:op.length=m+1:=by rw[X,<-V];rfl
    have hrev:pd op.reverse=pd r.reverse++[.int .u8 x.toNat]:=by rw[X];simp[pd]
    rcases E.2 with⟨_,hn0⟩|⟨gsZ,fb,cur,rfl,hgs,Q,hnc,hcm,hcsz,htk⟩
    ·omega
    have O:=E;rw[hrev,T]at O;have Z:=ownsRow_pop (by simp[pd];omega) O;have hgsl:=(Kh.1 Q).1;have hcx:wr.cell? ⟨gsZ,m,none⟩=some (.int .u8 x.toNat):=(O.cellAt m aa).trans (by rw[Pf (by simp[pd];omega)];simp[pd,V]);obtain⟨y,J⟩:∃y,x.toNat=y:=⟨_,rfl⟩;rw[J]at hcx;have hcx5:=fun o=>(((Below.refl wr.heap.size wr).alloc (Aa _) o).cell (p:=⟨gsZ,m,none⟩) hgsl).trans hcx
    have hm31:m<=100000:=aa
    have hwr:IntKind.i64.wrap (m:Int)=(m:Int):=by rw[IntKind.wrap_i64];omega
    have hix1:(m:Int)<(m:Int)+1:=aa
    have hix2:(m:Int)<((m+1:Nat):Int):=aa
    have hix3:m<m+1:=aa
    have hix0:(0:Int)<=(m:Int):=aa
    have hn0:¬((m:Int)<0):=aa
    have z:=Lib.hid E;have HPZ:=Lib.hid Z;have b:=Lib.hid (And.intro X (And.intro V (And.intro T (And.intro J h0Z))));have M:=h0Z;rw[T]at hnc hop;rw[T];clear E O Z Q htk hrev X V P h0Z J hgs;rcases hcs with⟨x'Z,r',h,I,K,rfl⟩|⟨I,K,rfl⟩|⟨I,K,rfl⟩|⟨I,K,rfl⟩|⟨I,K,rfl⟩|⟨x'Z,r',h,I,K,rfl⟩
    ·obtain⟨rfl,rfl⟩:x'Z=x/\r'=r:=by rw[b.out.1]at h;cases h;exact⟨rfl,rfl⟩
     rw[b.out.2.2.2.1]at K;clear h M T;rcases K with⟨rfl,rfl⟩|⟨J,rfl⟩
     ·rcases I with rfl|rfl|rfl
      all_goals as_aux_lemma=>
       repeat (first|go_values|go_skip|go_guarded|go_step|go_upon)
       exact⟨⟨k+1,r',D,5,(by first|rfl|(simp;done)|(simp;omega)|(congr 1;omega)),(by first|rfl|(simp;done)|(simp;omega)|(congr 1;omega)),(by first|rfl|(simp;done)|(simp;omega)|(congr 1;omega)),fa,by have:=b.out.2.1;omega,aa,by rw[b.out.2.1];exact HPZ.out.alloc _,j.alloc u _,H,Lib.hid fun _=>.inr rfl⟩,(by first|(simp[intOf];done)|(simp[intOf];omega))⟩
     ·have R:((y:Int)==123)=false:=Ma
      clear J;rcases I with rfl|rfl|rfl
      all_goals as_aux_lemma=>
       repeat (first|go_values|go_skip|go_guarded|go_step|go_upon)
       exact⟨⟨k+1,r',D,5,(by first|rfl|(simp;done)|(simp;omega)|(congr 1;omega)),(by first|rfl|(simp;done)|(simp;omega)|(congr 1;omega)),(by first|rfl|(simp;done)|(simp;omega)|(congr 1;omega)),fa,by have:=b.out.2.1;omega,aa,by rw[b.out.2.1];exact HPZ.out.alloc _,j.alloc u _,H,Lib.hid fun _=>.inr rfl⟩,(by first|(simp[intOf];done)|(simp[intOf];omega))⟩
    ·clear M T
     by_cases J:y=123
     ·subst J
      rcases I with rfl|rfl<;>rcases K with rfl|rfl
      ·as_aux_lemma=>
        repeat (first|(at_builtin;refine Gi ra _ _ _ ra 5 _ 1 1 Tryz.underlying99 Mm ra aa w.heap.size _ _ _ _ ra (b.out.2.2.1▸z.out.alloc _) [.int .u8 91] ra (by simp[Value.oneCell']) (by show Value.slice (some ⟨wr.heap.size+1,0,none⟩) 1 1=_;simp) aa aa Ma ?_;intro U C Y N c q l F;have B:=Lib.hid c;have A:=Lib.hid l;clear c l q)|go_values|go_skip|go_guarded|go_step|go_upon)
        exact⟨⟨k+1,t.kind::op,max D (op.length+1),1,ra,by rw[b.out.2.2.1];first|rfl|(simp;done)|(simp;omega)|(congr 1;omega),(by first|rfl|(simp;done)|(simp;omega)|(congr 1;omega)),fa,by have:=b.out.2.2.1;simp;omega,by have:=b.out.2.2.1;omega,by have h:=B.out;rw[show pd (t.kind::op).reverse=pd op.reverse++[.int .u8 91]from by simp[pd,S.out],show(t.kind::op).length=m+1+1 from by rw[ua,b.out.2.2.1]];exact h,(j.alloc u _).trans (A.out.mono aa),H,Lib.hid ea⟩,(by first|(simp[intOf];done)|(simp[intOf];omega))⟩
      ·as_aux_lemma=>
        repeat (first|(at_builtin;refine Gi ra _ _ _ ra 5 _ 1 1 Tryz.underlying99 Mm ra aa w.heap.size _ _ _ _ ra (b.out.2.2.1▸z.out.alloc _) [.int .u8 123] ra (by simp[Value.oneCell']) (by show Value.slice (some ⟨wr.heap.size+1,0,none⟩) 1 1=_;simp) aa aa Ma ?_;intro U C Y N c q l F;have B:=Lib.hid c;have A:=Lib.hid l;clear c l q)|go_values|go_skip|go_guarded|go_step|go_upon)
        exact⟨⟨k+1,t.kind::op,max D (op.length+1),3,ra,by rw[b.out.2.2.1];first|rfl|(simp;done)|(simp;omega)|(congr 1;omega),(by first|rfl|(simp;done)|(simp;omega)|(congr 1;omega)),fa,by have:=b.out.2.2.1;simp;omega,by have:=b.out.2.2.1;omega,by have h:=B.out;rw[show pd (t.kind::op).reverse=pd op.reverse++[.int .u8 123]from by simp[pd,S.out],show(t.kind::op).length=m+1+1 from by rw[ua,b.out.2.2.1]];exact h,(j.alloc u _).trans (A.out.mono aa),H,Lib.hid ea⟩,(by first|(simp[intOf];done)|(simp[intOf];omega))⟩
      ·as_aux_lemma=>
        repeat (first|(at_builtin;refine Gi ra _ _ _ ra 5 _ 1 1 Tryz.underlying99 Mm ra aa w.heap.size _ _ _ _ ra (b.out.2.2.1▸z.out.alloc _) [.int .u8 91] ra (by simp[Value.oneCell']) (by show Value.slice (some ⟨wr.heap.size+1,0,none⟩) 1 1=_;simp) aa aa Ma ?_;intro U C Y N c q l F;have B:=Lib.hid c;have A:=Lib.hid l;clear c l q)|go_values|go_skip|go_guarded|go_step|go_upon)
        exact⟨⟨k+1,t.kind::op,max D (op.length+1),1,ra,by rw[b.out.2.2.1];first|rfl|(simp;done)|(simp;omega)|(congr 1;omega),(by first|rfl|(simp;done)|(simp;omega)|(congr 1;omega)),fa,by have:=b.out.2.2.1;simp;omega,by have:=b.out.2.2.1;omega,by have h:=B.out;rw[show pd (t.kind::op).reverse=pd op.reverse++[.int .u8 91]from by simp[pd,S.out],show(t.kind::op).length=m+1+1 from by rw[ua,b.out.2.2.1]];exact h,(j.alloc u _).trans (A.out.mono aa),H,Lib.hid ea⟩,(by first|(simp[intOf];done)|(simp[intOf];omega))⟩
      ·as_aux_lemma=>
        repeat (first|(at_builtin;refine Gi ra _ _ _ ra 5 _ 1 1 Tryz.underlying99 Mm ra aa w.heap.size _ _ _ _ ra (b.out.2.2.1▸z.out.alloc _) [.int .u8 123] ra (by simp[Value.oneCell']) (by show Value.slice (some ⟨wr.heap.size+1,0,none⟩) 1 1=_;simp) aa aa Ma ?_;intro U C Y N c q l F;have B:=Lib.hid c;have A:=Lib.hid l;clear c l q)|go_values|go_skip|go_guarded|go_step|go_upon)
        exact⟨⟨k+1,t.kind::op,max D (op.length+1),3,ra,by rw[b.out.2.2.1];first|rfl|(simp;done)|(simp;omega)|(congr 1;omega),(by first|rfl|(simp;done)|(simp;omega)|(congr 1;omega)),fa,by have:=b.out.2.2.1;simp;omega,by have:=b.out.2.2.1;omega,by have h:=B.out;rw[show pd (t.kind::op).reverse=pd op.reverse++[.int .u8 123]from by simp[pd,S.out],show(t.kind::op).length=m+1+1 from by rw[ua,b.out.2.2.1]];exact h,(j.alloc u _).trans (A.out.mono aa),H,Lib.hid ea⟩,(by first|(simp[intOf];done)|(simp[intOf];omega))⟩
     ·have R:((y:Int)==123)=false:=Ma
      clear J;rcases I with rfl|rfl<;>rcases K with rfl|rfl
      ·as_aux_lemma=>
        repeat (first|(at_builtin;refine Gi ra _ _ _ ra 5 _ 1 1 Tryz.underlying99 Mm ra aa w.heap.size _ _ _ _ ra (b.out.2.2.1▸z.out.alloc _) [.int .u8 91] ra (by simp[Value.oneCell']) (by show Value.slice (some ⟨wr.heap.size+1,0,none⟩) 1 1=_;simp) aa aa Ma ?_;intro U C Y N c q l F;have B:=Lib.hid c;have A:=Lib.hid l;clear c l q)|go_values|go_skip|go_guarded|go_step|go_upon)
        exact⟨⟨k+1,t.kind::op,max D (op.length+1),1,ra,by rw[b.out.2.2.1];first|rfl|(simp;done)|(simp;omega)|(congr 1;omega),(by first|rfl|(simp;done)|(simp;omega)|(congr 1;omega)),fa,by have:=b.out.2.2.1;simp;omega,by have:=b.out.2.2.1;omega,by have h:=B.out;rw[show pd (t.kind::op).reverse=pd op.reverse++[.int .u8 91]from by simp[pd,S.out],show(t.kind::op).length=m+1+1 from by rw[ua,b.out.2.2.1]];exact h,(j.alloc u _).trans (A.out.mono aa),H,Lib.hid ea⟩,(by first|(simp[intOf];done)|(simp[intOf];omega))⟩
      ·as_aux_lemma=>
        repeat (first|(at_builtin;refine Gi ra _ _ _ ra 5 _ 1 1 Tryz.underlying99 Mm ra aa w.heap.size _ _ _ _ ra (b.out.2.2.1▸z.out.alloc _) [.int .u8 123] ra (by simp[Value.oneCell']) (by show Value.slice (some ⟨wr.heap.size+1,0,none⟩) 1 1=_;simp) aa aa Ma ?_;intro U C Y N c q l F;have B:=Lib.hid c;have A:=Lib.hid l;clear c l q)|go_values|go_skip|go_guarded|go_step|go_upon)
        exact⟨⟨k+1,t.kind::op,max D (op.length+1),3,ra,by rw[b.out.2.2.1];first|rfl|(simp;done)|(simp;omega)|(congr 1;omega),(by first|rfl|(simp;done)|(simp;omega)|(congr 1;omega)),fa,by have:=b.out.2.2.1;simp;omega,by have:=b.out.2.2.1;omega,by have h:=B.out;rw[show pd (t.kind::op).reverse=pd op.reverse++[.int .u8 123]from by simp[pd,S.out],show(t.kind::op).length=m+1+1 from by rw[ua,b.out.2.2.1]];exact h,(j.alloc u _).trans (A.out.mono aa),H,Lib.hid ea⟩,(by first|(simp[intOf];done)|(simp[intOf];omega))⟩
      ·as_aux_lemma=>
        repeat (first|(at_builtin;refine Gi ra _ _ _ ra 5 _ 1 1 Tryz.underlying99 Mm ra aa w.heap.size _ _ _ _ ra (b.out.2.2.1▸z.out.alloc _) [.int .u8 91] ra (by simp[Value.oneCell']) (by show Value.slice (some ⟨wr.heap.size+1,0,none⟩) 1 1=_;simp) aa aa Ma ?_;intro U C Y N c q l F;have B:=Lib.hid c;have A:=Lib.hid l;clear c l q)|go_values|go_skip|go_guarded|go_step|go_upon)
        exact⟨⟨k+1,t.kind::op,max D (op.length+1),1,ra,by rw[b.out.2.2.1];first|rfl|(simp;done)|(simp;omega)|(congr 1;omega),(by first|rfl|(simp;done)|(simp;omega)|(congr 1;omega)),fa,by have:=b.out.2.2.1;simp;omega,by have:=b.out.2.2.1;omega,by have h:=B.out;rw[show pd (t.kind::op).reverse=pd op.reverse++[.int .u8 91]from by simp[pd,S.out],show(t.kind::op).length=m+1+1 from by rw[ua,b.out.2.2.1]];exact h,(j.alloc u _).trans (A.out.mono aa),H,Lib.hid ea⟩,(by first|(simp[intOf];done)|(simp[intOf];omega))⟩
      ·as_aux_lemma=>
        repeat (first|(at_builtin;refine Gi ra _ _ _ ra 5 _ 1 1 Tryz.underlying99 Mm ra aa w.heap.size _ _ _ _ ra (b.out.2.2.1▸z.out.alloc _) [.int .u8 123] ra (by simp[Value.oneCell']) (by show Value.slice (some ⟨wr.heap.size+1,0,none⟩) 1 1=_;simp) aa aa Ma ?_;intro U C Y N c q l F;have B:=Lib.hid c;have A:=Lib.hid l;clear c l q)|go_values|go_skip|go_guarded|go_step|go_upon)
        exact⟨⟨k+1,t.kind::op,max D (op.length+1),3,ra,by rw[b.out.2.2.1];first|rfl|(simp;done)|(simp;omega)|(congr 1;omega),(by first|rfl|(simp;done)|(simp;omega)|(congr 1;omega)),fa,by have:=b.out.2.2.1;simp;omega,by have:=b.out.2.2.1;omega,by have h:=B.out;rw[show pd (t.kind::op).reverse=pd op.reverse++[.int .u8 123]from by simp[pd,S.out],show(t.kind::op).length=m+1+1 from by rw[ua,b.out.2.2.1]];exact h,(j.alloc u _).trans (A.out.mono aa),H,Lib.hid ea⟩,(by first|(simp[intOf];done)|(simp[intOf];omega))⟩
    ·clear M T
     by_cases J:y=123
     ·subst J
      rcases I with rfl|rfl<;>rcases K with rfl|rfl|rfl
      all_goals as_aux_lemma=>
       repeat (first|go_values|go_skip|go_guarded|go_step|go_upon)
       exact⟨⟨k+1,op,max D (op.length+1),5,ra,by rw[b.out.2.2.1];first|rfl|(simp;done)|(simp;omega)|(congr 1;omega),(by first|rfl|(simp;done)|(simp;omega)|(congr 1;omega)),fa,by have:=b.out.2.2.1;omega,by have:=b.out.2.2.1;omega,by rw[b.out.2.2.1];exact b.out.2.2.1▸z.out.alloc _,j.alloc u _,H,Lib.hid fun _=>.inr rfl⟩,(by first|(simp[intOf];done)|(simp[intOf];omega))⟩
     ·have R:((y:Int)==123)=false:=Ma
      clear J;rcases I with rfl|rfl<;>rcases K with rfl|rfl|rfl
      all_goals as_aux_lemma=>
       repeat (first|go_values|go_skip|go_guarded|go_step|go_upon)
       exact⟨⟨k+1,op,max D (op.length+1),5,ra,by rw[b.out.2.2.1];first|rfl|(simp;done)|(simp;omega)|(congr 1;omega),(by first|rfl|(simp;done)|(simp;omega)|(congr 1;omega)),fa,by have:=b.out.2.2.1;omega,by have:=b.out.2.2.1;omega,by rw[b.out.2.2.1];exact b.out.2.2.1▸z.out.alloc _,j.alloc u _,H,Lib.hid fun _=>.inr rfl⟩,(by first|(simp[intOf];done)|(simp[intOf];omega))⟩
    ·clear M T
     subst K;by_cases J:y=123
     ·subst J
      rcases I with rfl|rfl
      all_goals as_aux_lemma=>
       repeat (first|go_values|go_skip|go_guarded|go_step|go_upon)
       exact⟨⟨k+1,op,D,4,(by first|rfl|(simp;done)|(simp;omega)|(congr 1;omega)),(by first|rfl|(simp;done)|(simp;omega)|(congr 1;omega)),(by first|rfl|(simp;done)|(simp;omega)|(congr 1;omega)),fa,by have:=b.out.2.2.1;omega,aa,by rw[b.out.2.2.1];exact b.out.2.2.1▸z.out.alloc _,j.alloc u _,H,Lib.hid fun h=>absurd h b.out.2.2.2.2⟩,(by first|(simp[intOf];done)|(simp[intOf];omega))⟩
     ·have R:((y:Int)==123)=false:=Ma
      clear J;rcases I with rfl|rfl
      all_goals as_aux_lemma=>
       repeat (first|go_values|go_skip|go_guarded|go_step|go_upon)
       exact⟨⟨k+1,op,D,4,(by first|rfl|(simp;done)|(simp;omega)|(congr 1;omega)),(by first|rfl|(simp;done)|(simp;omega)|(congr 1;omega)),(by first|rfl|(simp;done)|(simp;omega)|(congr 1;omega)),fa,by have:=b.out.2.2.1;omega,aa,by rw[b.out.2.2.1];exact b.out.2.2.1▸z.out.alloc _,j.alloc u _,H,Lib.hid fun h=>absurd h b.out.2.2.2.2⟩,(by first|(simp[intOf];done)|(simp[intOf];omega))⟩
    ·clear M T
     subst I K;by_cases J:y=123
     ·subst J
      as_aux_lemma=>
       repeat (first|go_values|go_skip|go_guarded|go_step|go_upon)
       exact⟨⟨k+1,op,D,0,(by first|rfl|(simp;done)|(simp;omega)|(congr 1;omega)),(by first|rfl|(simp;done)|(simp;omega)|(congr 1;omega)),(by first|rfl|(simp;done)|(simp;omega)|(congr 1;omega)),fa,by have:=b.out.2.2.1;omega,aa,by rw[b.out.2.2.1];exact b.out.2.2.1▸z.out.alloc _,j.alloc u _,H,Lib.hid fun h=>absurd h b.out.2.2.2.2⟩,(by first|(simp[intOf];done)|(simp[intOf];omega))⟩
     ·have R:((y:Int)==123)=false:=Ma
      clear J
      as_aux_lemma=>
       repeat (first|go_values|go_skip|go_guarded|go_step|go_upon)
       exact⟨⟨k+1,op,D,0,(by first|rfl|(simp;done)|(simp;omega)|(congr 1;omega)),(by first|rfl|(simp;done)|(simp;omega)|(congr 1;omega)),(by first|rfl|(simp;done)|(simp;omega)|(congr 1;omega)),fa,by have:=b.out.2.2.1;omega,aa,by rw[b.out.2.2.1];exact b.out.2.2.1▸z.out.alloc _,j.alloc u _,H,Lib.hid fun h=>absurd h b.out.2.2.2.2⟩,(by first|(simp[intOf];done)|(simp[intOf];omega))⟩
    ·obtain⟨rfl,rfl⟩:x'Z=x/\r'=r:=by rw[b.out.1]at h;cases h;exact⟨rfl,rfl⟩
     rw[b.out.2.2.2.1]at H;clear h M T;subst I K;by_cases J:y=123
     ·subst J
      as_aux_lemma=>
       repeat (first|go_values|go_skip|go_guarded|go_step|go_upon)
       exact⟨⟨k+1,op,D,2,(by first|rfl|(simp;done)|(simp;omega)|(congr 1;omega)),(by first|rfl|(simp;done)|(simp;omega)|(congr 1;omega)),(by first|rfl|(simp;done)|(simp;omega)|(congr 1;omega)),fa,by have:=b.out.2.2.1;omega,aa,by rw[b.out.2.2.1];exact b.out.2.2.1▸z.out.alloc _,j.alloc u _,H,Lib.hid fun h=>absurd h b.out.2.2.2.2⟩,(by first|(simp[intOf];done)|(simp[intOf];omega))⟩
     ·have R:((y:Int)==123)=false:=Ma
      rw[if_neg J]at H;clear J
      as_aux_lemma=>
       repeat (first|go_values|go_skip|go_guarded|go_step|go_upon)
       exact⟨⟨k+1,op,D,0,(by first|rfl|(simp;done)|(simp;omega)|(congr 1;omega)),(by first|rfl|(simp;done)|(simp;omega)|(congr 1;omega)),(by first|rfl|(simp;done)|(simp;omega)|(congr 1;omega)),fa,by have:=b.out.2.2.1;omega,aa,by rw[b.out.2.2.1];exact b.out.2.2.1▸z.out.alloc _,j.alloc u _,H,Lib.hid fun h=>absurd h b.out.2.2.2.2⟩,(by first|(simp[intOf];done)|(simp[intOf];omega))⟩
  ·obtain rfl:k=L.length:=aa
   have b:=hst.out;rw[Vp]at b;have b:(op,D,W)=([],d,5):=jf b;cases b;rcases E.2 with⟨rfl,_⟩|⟨gsZ,fb,cur,rfl,hgs,Q,hnc,hcm,hcsz,htk⟩
   ·clear E
    repeat (first|go_values|go_skip|go_guarded|go_step|go_upon)
    go_ret;exact⟨rfl,j⟩
   ·clear E Q htk
    repeat (first|go_values|go_skip|go_guarded|go_step|go_upon)
    go_ret;exact⟨rfl,j⟩
end Go.Proofs.YtglaihdcndcmkaaGreatDoor
namespace ya
def yR(n:Nat)(w):Calls Tryz.prog 249 #[.int .i32 (n:Nat)] w (ag (.int .u8 (Be n:Nat)) w):=by
 rcases xU n with(rfl|rfl|rfl|rfl|rfl|rfl|rfl)|⟨c,c1,c2,c3,c4,c5,a,b⟩
 iterate 7
  ·go_enter Tryz.func249,Tryz.ntmps249
   go_wp2;go_ret;exact⟨rfl,rfl⟩
 have e:∀m:Nat,n≠m->((n:Int)==(m:Int))=false:=fun m h=>by simp;omega
 have c1:=e 34 c1;have c2:=e 92 c2;have c3:=e 8 c3;have c4:=e 12 c4;have c5:=e 10 c5;have a:=e 13 a;have b:=e 9 b;rw[c];clear e c
 go_enter Tryz.func249,Tryz.ntmps249
 go_wp2;go_ret;exact⟨rfl,rfl⟩
def aY{P:Program}{Γ:lf}{cf:Callee}(h:xc P Γ cf){f}(hf:f≠kb){args}{a b}{os}{bx}{oc}(j:cf f args [] []=some ([.flat a,.flat b],os,bx,oc)){w}{Fr}{vs}(i:Γ.G w)(hr:ta w Fr [] args vs):
 Calls P f vs.toArray w fun e w'=>e=.returned (.tuple #[a,b])/\Below w.heap.size w w':=by
 have d:=h f args [] [] _ _ _ _ j w Fr [] vs ⟨i,hr,UH w Fr,(fun L h=>by cases h),fun g _=>zp⟩;unfold Enters at d;rw[if_neg hf]at d;refine d.2.mono ?_;rintro e w' ⟨v0,Fr',β',rfl,c⟩;have:=c.rd;simp only[ed,Rd,ta]at this;obtain⟨vs,rfl,n,r1,rfl,⟨rfl,_⟩,o,r2,rfl,⟨rfl,_⟩,rfl⟩:=this;exact⟨rfl,c.rel.os,c.rel.tape,c.rel.output,c.le.size,fun k l=>(c.rel.old k l zp).1⟩
def Dn:ByteArray:=⟨#[34,92,8,12,10,13,9]⟩
def k2:∀k<7,∃c:UInt8,Dn.data.toList[k]?=some c/\c.toNat<128/\Be c.toNat<256/\Vl (UInt8.ofNat (Be c.toNat))=some c.toNat:=by
 intro k a;have:k=0\/k=1\/k=2\/k=3\/k=4\/k=5\/k=6:=aa
 rcases this with rfl|rfl|rfl|rfl|rfl|rfl|rfl<;>exact⟨_,rfl,ha,ha,ha⟩
def Gj(w:World)(p n:Nat):World:=(w.iter Dn p).drewN n
def i2{P:Program}(w:World)(p n:Nat)(ty:TypeId)(h:p<7){c:UInt8}(e:Dn.data.toList[p]?=some c)(d:c.toNat<128):
 (Instr.next (.pointer (some ⟨w.heap.size,0,none⟩)) true ty).run P (Gj w p n)=.ok (.tuple #[.bool true,.int .i64 p,.int .i32 (c.toNat:Nat)]) (Gj w (p+1) n):=by
 have b:p<Dn.size:=h;have a:Dn[p]'b=c:=by
  have:=(qg e).2;exact this
 have:=run_next_ascii (P:=P) (w.drewN n) Dn p ty b (by rw[a];exact d);rw[a]at this;exact this
def h2{P:Program}(w:World)(n:Nat)(ty:TypeId):(Instr.next (.pointer (some ⟨w.heap.size,0,none⟩)) true ty).run P (Gj w 7 n)=.ok (.tuple #[.bool false]) (Gj w 7 n):=
 run_next_end (P:=P) (w.drewN n) Dn 7 ty ha
def ss(w:World)(p n:Nat):Below w.heap.size w (Gj w p n):=⟨rfl,rfl,rfl,by show w.heap.size<=(w.heap.push _).size;rw[Array.size_push];omega,fun i a=>by
 show(w.heap.push _)[i]?=_;rw[Array.getElem?_push_lt a,Ht a]⟩
def JD{w:World}{p n m:Nat}:(Gj w p n).drewN m=Gj w p (n+m):=World.drewN_drewN ..
def aP(w:World)(p n:Nat):(Gj w p n).iterPos w.heap.size=p:=World.iterPos_iter (w.drewN n) Dn p
theorem l2{Γ:lf}{lib:Callee}(R:xc Tryz.prog Γ (da code lib))(N:sc lib)(s:ba)(t:ByteArray)(ht:S s=t)(k:Nat)(v:Nat×Nat)(hs:s.length<=100000)(z:s[k]?=some 92)(b:tf (s.drop k)=some v)(P:v.2<=6)(w)(J:Γ.G w):
 Calls Tryz.prog 285 #[.string t,.int .i64 (k:Nat)] w fun e w'=>e=.returned (.tuple #[.int .i32 (v.1:Nat),.int .i64 (v.2:Nat),.bool true])/\Below w.heap.size w w':=by
 have H:t.size=s.length:=by rw[<-ht,Xa]
 have C:=(qg z).1;obtain⟨d,r,L⟩:∃d r,s.drop k=92::d::r:=by
  rw[Pd C,(qg z).2]at b⊢;cases hr:s.drop (k+1)with
  |nil=>rw[hr]at b;cases b
  |cons d r=>exact⟨d,r,rfl⟩
 have T:=gg (Em L);have U:k+1<t.size:=aa
 have i:∀x:UInt8,d=x->t[k+1]'U=x:=by
  have h:=Vh (Em L);have:=(qg h).2;subst ht;exact fun x y=>this.trans y
 have M:∀u w',re (s.drop k)=some u->Γ.G w'->Calls Tryz.prog 291 #[.string t,.int .i64 (k:Nat)] w' fun e W=>e=.returned (.tuple #[.int .i32 (u:Nat),.bool true])/\Below w'.heap.size w' W:=fun u w' h Q=>by
  subst ht;exact aY (Fr:=fun _=>0) (vs:=[.string (S s),.int .i64 (k:Nat)]) R ha (zfp N s k aa aa h) Q (by simp[ta,Rd,Bc])
 rw[L]at b M;unfold tf Fm at b;simp only[if_true,vk,ro,Ja]at b;have hk2:(k:Int)+1<(t.size:Int):=aa
 have hw1:RowKit.wrap64 ((k:Int)+1)=(k:Int)+1:=by unfold RowKit.wrap64;omega
 clear L T z ht hs;by_cases q:d=47
 ·subst q
  cases b;have hDZ:t[k+1]=47:=i _ rfl;clear M R J i N C H P
  go_enter Tryz.func285,Tryz.ntmps285
  repeat (first|go_values|go_skip|go_guarded|go_step|go_upon)
  go_ret3
  exact⟨rfl,Below.refl _ _⟩
 have hne:((d.toNat:Int)==47)=false:=by
  have:¬d.toNat=(47:UInt8).toNat:=fun h=>q (Xb.1 h)
  have h:(47:UInt8).toNat=47:=rfl;rw[h]at this;simp;omega
 have hVZ:∀c:UInt8,Be c.toNat=d.toNat->Vl (UInt8.ofNat (Be c.toNat))=some c.toNat->v=(c.toNat,2):=fun c h1Z Y=>by
  rw[h1Z,UInt8.ofNat_toNat]at Y;rw[Y]at b;exact(jf b).symm
 have Z:Vl d=none->∃a,re (92::d::r)=some a/\v=(a,6)/\(a<55296\/57343<a):=fun h=>by
  rw[h]at b;dsimp only at b;split at b
  ·cases b
  ·rename_i a K
   split at b
   ·split at b
    ·split at b
     ·cases b
     ·split at b
      ·have:=jf b
       subst this;dsimp only at P;omega
      ·cases b
    ·cases b
   ·exact⟨a,K,(jf b).symm,aa⟩
 have hDZ:t[k+1]=d:=i _ rfl;clear i;have D:∀p n,Γ.G (Gj w p n):=fun p n=>Γ.Ye _ _ J fun g hgZ=>(ss w p n).block g (Γ.lt _ J g hgZ)
 have I:=Lib.hid (And.intro hVZ (And.intro Z (And.intro D M)));have H2Z:=Lib.hid q;clear hVZ Z D M b P R J N C H q
 go_enter Tryz.func285,Tryz.ntmps285
 repeat (first|go_values|go_skip|go_guarded|go_step|go_upon)
 go_loopw [8] (fun _ w'=>∃p n,p<=7/\w'=Gj w p n/\Hid (∀j<p,∀c,Dn.data.toList[j]?=some c->Be c.toNat≠d.toNat)) (fun _ w'=>7 - w'.iterPos w.heap.size)
 case atStart=>exact⟨0,0,aa,rfl,Lib.hid fun j hjZ=>by omega⟩
 case round=>
  obtain⟨p,n,hpZ,rfl,l⟩:=hrel;by_cases G:p<7
  ·obtain⟨c,z,B,E,F⟩:=k2 p G
   have V:∀ty,(Instr.next (.pointer (some ⟨w.heap.size,0,none⟩)) true ty).run Tryz.prog (Gj w p n)=_:=fun ty=>i2 w p n ty G z B
   have X:=Lib.hid (And.intro z (And.intro B (And.intro E F)));clear z B E F;by_cases o:Be c.toNat=d.toNat
   ·have heZ:((Be c.toNat:Int)==(d.toNat:Int))=true:=by rw[o];simp
    have O:=Lib.hid o;clear o
    repeat (first|go_values|go_skip|go_guarded|go_step|go_upon)
    go_quiet (exact iU (yR c.toNat))
    repeat (first|go_values|go_skip|go_guarded|go_step|go_upon)
    go_ret3
    rw[I.out.1 c O.out X.out.2.2.2];exact⟨rfl,JD▸ss w (p+1) (n+nq)⟩
   ·have heZ:((Be c.toNat:Int)==(d.toNat:Int))=false:=Ma
    have O:=Lib.hid o;clear o
    repeat (first|go_values|go_skip|go_guarded|go_step|go_upon)
    go_quiet (exact iU (yR c.toNat))
    repeat (first|go_values|go_skip|go_guarded|go_step|go_upon)
    refine⟨⟨p+1,n+nq,aa,JD,Lib.hid fun j hjZ c' A=>?_⟩,?_⟩
    ·rcases Mh j p with h|h
     ·exact l.out j h c' A
     ·obtain rfl:j=p:=aa
      rw[X.out.1]at A;cases A;exact O.out
    ·rw[JD,aP,aP];omega
  ·obtain rfl:p=7:=aa
   have V:∀ty,(Instr.next (.pointer (some ⟨w.heap.size,0,none⟩)) true ty).run Tryz.prog (Gj w 7 n)=_:=fun ty=>h2 w n ty
   have B:Vl d=none:=by
    have y:=l.out;rcases hI d with(rfl|rfl|rfl|rfl|rfl|rfl|rfl|rfl)|⟨h,_⟩
    ·exact absurd rfl (y 0 aa 34 rfl)
    ·exact absurd rfl (y 1 aa 92 rfl)
    ·exact absurd rfl (y 2 aa 8 rfl)
    ·exact absurd rfl (y 3 aa 12 rfl)
    ·exact absurd rfl (y 4 aa 10 rfl)
    ·exact absurd rfl (y 5 aa 13 rfl)
    ·exact absurd rfl (y 6 aa 9 rfl)
    ·exact absurd rfl H2Z.out
    ·exact h
   obtain⟨a,K,E,o⟩:=I.out.2.1 B;have O:=Lib.hid (I.out.2.2.2 a (Gj w 7 n) K (I.out.2.2.1 7 n));have X:=Lib.hid E;clear K E B l;rcases o with o|o
   ·have k1Z:¬(56320:Int)<=(a:Int):=aa
    have k2Z:¬(55296:Int)<=(a:Int):=aa
    clear o
    repeat (first|go_values|go_skip|go_guarded|go_step|go_upon)
    refine O.out.mono ?_;rintro e w2Z ⟨rfl,A⟩;have F:=Lib.hid A;clear A;dsimp only
    repeat (first|go_values|go_skip|go_guarded|go_step|go_upon)
    go_ret3
    rw[X.out];exact⟨rfl,(ss w 7 n).trans (F.out.mono (ss w 7 n).size)⟩
   ·have k1Z:(56320:Int)<=(a:Int):=aa
    have k2Z:(55296:Int)<=(a:Int):=aa
    have k3Z:¬(a:Int)<57344:=aa
    have k4Z:¬(a:Int)<56320:=aa
    clear o
    repeat (first|go_values|go_skip|go_guarded|go_step|go_upon)
    refine O.out.mono ?_;rintro e w2Z ⟨rfl,A⟩;have F:=Lib.hid A;clear A;dsimp only
    repeat (first|go_values|go_skip|go_guarded|go_step|go_upon)
    go_ret3
    rw[X.out];exact⟨rfl,(ss w 7 n).trans (F.out.mono (ss w 7 n).size)⟩
def vt(t:List (FuncId×Callee)):Callee:=fun f=>match t.lookup f with
 |some c=>c f
 |none=>fun _ _ _=>none
def dV{t}{f}{c}(h:t.lookup f=some c):vt t f=c f:=by grind [vt]
def eV{P}{Γ}{t}(h:∀p∈t,xc P Γ p.2):xc P Γ (vt t):=fun f args bx oc b os bx' oc' a=>by
 unfold vt at a;cases d:t.lookup f with
 |some c=>rw[d]at a;exact h _ (LG d) f args bx oc b os bx' oc' a
 |none=>grind
structure ue where
 pre:List Value
 row:Option (List Value × Nat × Nat × TypeId)
 ex:List Value
def ue.vs(R:ue)(v:Value):List Value:=match R.row with
 |none=>R.pre++R.ex
 |some _=>R.pre++v::R.ex
def ue.mi(R:ue):List PV:=match R.row with
 |none=>(R.pre++R.ex).map .flat
 |some (c,n,_,_)=>R.pre.map .flat++.ia n (c.map .flat)::R.ex.map .flat
def HA:List Value->Value
 |[v]=>v
 |l=>.tuple l.toArray
def bi(P:Program)(Γ:lf)(f:FuncId)(spec:List Value->Option ue):Prop:=Qj P f=true/\∀vs R,spec vs=some R->((∀v∈R.pre++R.ex,Bc v=true)/\∀c n z ty,R.row=some (c,n,z,ty)->∀v∈c,Bc v=true/\v.oneCell'=true)/\
 ∀w,Γ.G w->Calls P f vs.toArray w fun e w'=>∃v,e=.returned (HA (R.vs v))/\(∀c n z ty,R.row=some (c,n,z,ty)->w'.ownsRow w.heap.size ty z v n c)/\Below w.heap.size w w'
def Hh(k:FuncId)(spec:List Value->Option ue):ya.Callee:=fun f args bx oc=>match bx,oc with
 |[],[]=>if f=k then((jp args).bind spec).map fun R=>(R.mi,false,[],[])else none
 |_,_=>none
def nl{k}{spec}{args}{vs}{R}(a:jp args=some vs)(b:spec vs=some R):Hh k spec k args [] []=some (R.mi,false,[],[]):=by
 grind [Hh]
theorem jA{w}{Fr}{β}:∀{l},(∀v∈l,Bc v=true)->ta w Fr β (l.map .flat) l
 |[],_=>by rfl
 |v::l,h=>by
  simp only[gc,ta];exact⟨v,l,rfl,by grind [Rd],jA fun x a=>h x (kn _ a)⟩
theorem OT{w}{Fr}{β}:∀{a b}{u v},ta w Fr β a u->ta w Fr β b v->ta w Fr β (a++b) (u++v)
 |[],b,u,v,h,k=>by grind [ta]
 |p::a,b,u,v,h,k=>by
  simp only[ta]at h;obtain⟨x,r,rfl,c,d⟩:=h;simp only[Ha,ta];exact⟨x,_,rfl,c,OT d k⟩
def NT{w}{Fr}{β}{ps}{vs}(h:ta w Fr β ps vs):Rd w Fr β (ed ps) (HA vs):=by
 match ps,h with
 |[],h=>
  grind [ta,ed,HA,Rd]
 |[p],h=>
  simp only[ta]at h;obtain⟨x,r,rfl,a,rfl⟩:=h;exact a
 |p::q::l,h=>
  have b:=h;simp only[ta]at h;obtain⟨x,r,rfl,a,y,r',rfl,c⟩:=h;show Rd w Fr β (.Jc (p::q::l)) (.tuple (x::y::r').toArray)
  grind [Rd]
def Dj{P}{Γ}{k}{spec}(T:k≠kb)(h:bi P Γ k spec):xc P Γ (Hh k spec):=by
 intro f args bx oc V os bx' oc' i;unfold Hh at i;split at i
 case h_2=>cases i
 split at i
 case isFalse=>cases i
 rename_i hf;subst hf;obtain⟨R,O,i⟩:=qm i;cases i;obtain⟨us,C,B⟩:=qb O;obtain⟨K,M⟩:=h;obtain⟨⟨t,p⟩,N⟩:=M us R B;intro w Fr β vs r;refine enters_of K T ?_;obtain rfl:=ZD C r.args;refine(N w r.g).mono ?_;rintro e w' ⟨v,rfl,a,E⟩;cases b:R.row with
 |none=>
  obtain⟨Rl,y⟩:=r.rel.grow E (Fr':=Fr) fun _ _=>rfl
  refine⟨_,Fr,β,rfl,NT ?_,Rl,y,(fun L h=>by cases h),fun h=>by cases h⟩;unfold ue.mi ue.vs;rw[b];exact jA t
 |some q=>
  obtain⟨c,n,z,ty⟩:=q;have a:=a c n z ty b;have p:=p c n z ty b;obtain⟨Fr',d⟩:∃F:Nat->Nat,F=fun g=>if v.ownBlock=some g then c.length else Fr g:=⟨_,rfl⟩
  have o:∀g,g<w.heap.size->Fr' g=Fr g:=fun g Q=>by
   rw[d];dsimp only;rw[if_neg];intro e;have:=(a.lt g e).1;omega
  obtain⟨Rl,y⟩:=r.rel.grow E (Fr':=Fr') o;have U:Rd w' Fr' β (.ia n (c.map .flat)) v:=by
   simp only[Rd];have I:=a.1;rcases a.2 with⟨rfl,W⟩|⟨g,l,J,rfl,Q,G,A,_⟩
   ·simp_all
   ·refine⟨some ⟨g,0,none⟩,l,rfl,A,.inr ⟨g,0,c,rfl,fun j u H=>?_,jA fun x D=>(p x D).1,fun x D=>(p x D).2⟩⟩
    have S:=(qg H).1;refine⟨?_,?_⟩
    ·rw[d];dsimp only
     rw[if_pos (show(Value.slice (some ⟨g,0,none⟩) n l).ownBlock=some g from rfl)];omega
    ·rw[ld,a.cellAt j aa,H]
  refine⟨_,Fr',β,rfl,NT ?_,Rl,y,(fun L h=>by cases h),fun h=>by cases h⟩
  grind [ue.mi,ue.vs,OT,jA,ta]
end ya
namespace Go.Proofs.YtglaihdcndcmkaaGreatDoor
attribute [local go_sem] Oper.semAt_some
def gl{W}{D B t:Nat}{v}(h:D≠B)(a:Boxed W B t v)(o):Boxed (W.putObj D o) B t v:=(World.putObj_heap_other (Yf h)).trans a
def nA{w}{tmps}{n0}{v b e}(c1:w.cell? ⟨n0,0,none⟩=some v)(c2:w.cell? ⟨n0+1,0,none⟩=some b)(c3:w.cell? ⟨n0+1+1,0,none⟩=some e)
 (a:tmps.getD 2 undef=.pointer (some ⟨n0,0,none⟩):=by rfl) (c:tmps.getD 3 undef=.pointer (some ⟨n0+1,0,none⟩):=by rfl) (d:tmps.getD 4 undef=.pointer (some ⟨n0+1+1,0,none⟩):=by rfl):
 (results Tryz.f75 tmps).run Tryz.prog w=.ok (.tuple #[v,b,e]) w:=by
 rw[po]at a c d;simp[results,Tryz.results75,go_sem,c1,c2,c3,a,c,d]
def YT(n0:Nat)(s:ByteArray)(x:Ge):Act:={tmps:=#[.string s,undef,.pointer (some ⟨n0,0,none⟩),.pointer (some ⟨n0+1,0,none⟩),.pointer (some ⟨n0+1+1,0,none⟩),.string x.1.1,.int .i64 x.1.2,undef,undef,undef,undef,.string s,.func (.func 205) #[] #[.pointer (some ⟨n0+1+1+1,0,none⟩)],.string x.1.1,.int .i64 x.1.2,undef,undef,undef,undef,undef,undef,undef,undef,undef,undef,undef,undef,undef,undef,undef,undef,undef,undef,undef,undef,undef,undef,undef,undef,undef,undef,undef,undef,undef,undef,undef,undef,undef,undef,undef,undef,undef,undef,undef,undef,undef,undef,undef,undef,undef,undef,undef,undef,undef,undef,undef,undef,undef,undef,undef,undef,undef,undef,undef,undef,undef,undef,undef,undef,undef,undef,undef,undef,undef,undef,undef,undef,undef,undef,undef,undef,undef,undef,undef,undef],defers:=[]}
def p3{n0 k}{w W c e}{s p a b}{at_}{pre}{v v3}{L:Bool}{n}(E:p.size<=10000/\at_<=20000)
 (O:Boxed c n0 49 v) (K:Boxed c (n0+1) 3 (.int .i64 0)) (T:Boxed c (n0+1+1) 24 (.int .i64 (if L then 6 else 0))) (hs:Boxed c (n0+1+1+1) 9 (.string s))
 (J:Below n0 w c) (N:KeepsOthers W c) (y:Dk (n0+1+1+1) 0 W c) (M:Ck pre) (z:¬p.data.toList=[])
 (A:ze (Zb pre) p.data.toList=some ((Zb pre).1++[(p.data.toList.take k,p.data.toList.drop (k+1))],L)) (o:a.data.toList=p.data.toList.take k) (q:b.data.toList=p.data.toList.drop (k+1))
 (d:c.ownsRow n0 60 2 v (Zb pre).1.length (Zd (Zb pre).1)) (C:n0<=c.heap.size) (i:0<n0)
 (j:e.ownsRow n0 60 2 v3 ((Zb pre).1.length+1) (Zd (Zb pre).1++[.string a,.string b])) (g:(c.alloc n).grownBy e v.ownBlock):
 KeepsOthers W (e.setCell ⟨n0,0,none⟩ v3)/\Dk (n0+1+1+1) 0 W (e.setCell ⟨n0,0,none⟩ v3)/\Zw n0 w s (pre++[⟨(p,at_),E⟩]) (e.setCell ⟨n0,0,none⟩ v3):=by
 obtain⟨r,F⟩:=dQ (x:=⟨(p,at_),E⟩) M z A;obtain⟨_,H,S,I,D⟩:=Boxed.appended O ha d C (Aa _) j g;have G:∀{B t:Nat}{u:Value},Boxed c B t u->t≠60->B≠n0->Boxed (e.setCell ⟨n0,0,none⟩ v3) B t u:=fun h ht P=>((h.alloc n).kept g (h.not_row ht d)).other P _
 have l:=G hs ha aa;have Q:(⟨(p.data.toList.take k).toArray⟩:ByteArray)=a:=by apply Ft;apply qi;rw[o]
 have R:(⟨(p.data.toList.drop (k+1)).toArray⟩:ByteArray)=b:=by apply Ft;apply qi;rw[q]
 refine⟨N.trans I,pz y ⟨Eq.trans l (Eq.symm hs),D.block _ i⟩,⟨⟨⟨_,H,?_,trivial⟩,G K ha aa,?_,l⟩,r⟩,J.trans D⟩
 ·grind [aE]
 grind
def p8{n0 g c m}{w W a}{s p}{at_}{pre}{F0:List kf}{q:kf}{L:Bool}(C:p.size<=10000/\at_<=20000)
 (y:Boxed a n0 49 (.slice (some ⟨g,0,none⟩) (m+1) c)) (v:Boxed a (n0+1) 3 (.int .i64 0)) (E:Boxed a (n0+1+1) 24 (.int .i64 (if L then 6 else 0))) (hs:Boxed a (n0+1+1+1) 9 (.string s))
 (D:Below n0 w a) (G:KeepsOthers W a) (l:Dk (n0+1+1+1) 0 W a) (F:Ck pre) (n:¬p.data.toList=[])
 (o:ze (Zb pre) p.data.toList=some (F0++[(q.1,q.2++p.data.toList)],L)) (z:F0.length=m) (j:n0<=g)
 (b:a.ownsRow n0 60 2 (.slice (some ⟨g,0,none⟩) (m+1) c) (m+1) (Zd F0++[.string ⟨q.1.toArray⟩,.string ⟨q.2.toArray⟩])) (A:0<n0):
 KeepsOthers W (a.setCell ⟨g,m* 2+1,none⟩ (.string (⟨q.2.toArray⟩++p)))/\Dk (n0+1+1+1) 0 W (a.setCell ⟨g,m* 2+1,none⟩ (.string (⟨q.2.toArray⟩++p)))/\Zw n0 w s (pre++[⟨(p,at_),C⟩]) (a.setCell ⟨g,m* 2+1,none⟩ (.string (⟨q.2.toArray⟩++p))):=by
 obtain⟨k,d⟩:=dQ (x:=⟨(p,at_),C⟩) F n o;have i:∀{B t:Nat}{u:Value},Boxed a B t u->t≠60->B≠g:=fun h ht e=>h.not_row ht b (by rw[e];rfl)
 have n1:=i y ha;have n2:=i v ha;have n3:=i E ha;have n4:=i hs ha;have r:∀{B t:Nat}{u:Value},Boxed a B t u->B≠g->Boxed (a.setCell ⟨g,m* 2+1,none⟩ (.string (⟨q.2.toArray⟩++p))) B t u:=fun h H=>(Below.heap_setCell _ _ _ _ H).trans h
 refine⟨G.trans (KeepsOthers.setCell _ _ _),pz l (nR n4 aa _ _),⟨⟨⟨_,r y n1,?_,trivial⟩,r v n2,?_,r hs n4⟩,k⟩,D.setCell (p:=⟨g,m* 2+1,none⟩) j _⟩
 ·have:=(b.stored (m* 2+1) (.string (⟨q.2.toArray⟩++p))).1
  rw[d,aE];dsimp only;rw[Ba,z,Lt];rw[Dt _ _ (by grind [Mu]),Mu,z,show m* 2+1 - m* 2=1 by omega]at this;have e:(ByteArray.mk q.2.toArray++p)=⟨(q.2++p.data.toList).toArray⟩:=by
   apply Ft;apply qi;simp
  grind
 grind
def Q4:(Tryz.prog.info? 60).map (fun i=>(i.zero,i.size,i.bytes))=some (some (.agg #[.string ⟨#[]⟩,.string ⟨#[]⟩]),2,32):=ca
def Nu{n0}{w W a}{v}{b e}{pre}{x}(j:Boxed a n0 49 v)(d:Boxed a (n0+1) 3 (.int .i64 b))(g:Boxed a (n0+1+1) 24 (.int .i64 e))
 (c:Below n0 w a) (i:KeepsOthers W a) (h:Ck pre) (k:x.1.1.data.toList≠[]) (hs:ze (Zb pre) x.1.1.data.toList=none):
 KeepsOthers W (((a.setCell ⟨n0,0,none⟩ (.slice none 0 0)).setCell ⟨n0+1,0,none⟩ (.int .i64 0)).setCell ⟨n0+1+1,0,none⟩ (.int .i64 7))/\
 Out n0 w .ret (pre++[x]) (((a.setCell ⟨n0,0,none⟩ (.slice none 0 0)).setCell ⟨n0+1,0,none⟩ (.int .i64 0)).setCell ⟨n0+1+1,0,none⟩ (.int .i64 7)):=
 ⟨((i.trans (KeepsOthers.setCell _ _ _)).trans (KeepsOthers.setCell _ _ _)).trans (KeepsOthers.setCell _ _ _),
   .inl ⟨⟨⟨((j.set _).other aa _).other aa _,((d.other aa _).set _).other aa _,((g.other aa _).other aa _).set _⟩,rfl,pre,x,rfl,h,k,hs⟩,
    ((c.setCell (p:=⟨n0,0,none⟩) (Aa _) _).setCell (p:=⟨n0+1,0,none⟩) ea _).setCell (p:=⟨n0+1+1,0,none⟩) na _⟩⟩
set_option maxRecDepth 100000 in
def zdG(s)(w)(hmZ:zf w)(hs:s.size<=10000):Calls Tryz.prog 75 #[.string s] w (zdF (ih s.data.toList) w):=by
 refine(callsIn_wide (n:=3)).1 ?_;refine callsIn_of_wp_marks Tryz.func75 rfl trivial ?_ rfl;simp only[Tryz.ntmps75,Nw,ua,Ca,Nat.reduceAdd,Nat.reduceSub,Ow,Pw,Qw,Rw,Ra,Ha];refine wpIn_wide.2 ?_
 go_wp2_with(go_at_call 135;refine(Y8 _ _).mono ?_;rintro e w' ⟨rfl,rfl⟩)
 obtain⟨n0,S⟩:∃n0,w.heap.size=n0:=⟨_,rfl⟩;have hB0:Below n0 w ((((w.alloc (.cells #[.slice none 0 0] 49)).alloc (.cells #[.int .i64 0] 3)).alloc (.cells #[.int .i64 0] 24)).alloc (.cells #[.string s] 9)):=by
  rw[<-S];exact((((Below.refl _ w).alloc (Aa _) _).alloc ea _).alloc Ma _).alloc Ma _
 have hl0:Boxed ((((w.alloc (.cells #[.slice none 0 0] 49)).alloc (.cells #[.int .i64 0] 3)).alloc (.cells #[.int .i64 0] 24)).alloc (.cells #[.string s] 9)) n0 49 (.slice none 0 0):=by
  rw[<-S];exact(((Boxed.new w _ _).alloc _).alloc _).alloc _
 have hb0:Boxed ((((w.alloc (.cells #[.slice none 0 0] 49)).alloc (.cells #[.int .i64 0] 3)).alloc (.cells #[.int .i64 0] 24)).alloc (.cells #[.string s] 9)) (n0+1) 3 (.int .i64 0):=by
  have:=Boxed.new (w.alloc (.cells #[.slice none 0 0] 49)) 3 (.int .i64 0);rw[ln,S]at this;exact(this.alloc _).alloc _
 have he0:Boxed ((((w.alloc (.cells #[.slice none 0 0] 49)).alloc (.cells #[.int .i64 0] 3)).alloc (.cells #[.int .i64 0] 24)).alloc (.cells #[.string s] 9)) (n0+1+1) 24 (.int .i64 0):=by
  have:=Boxed.new ((w.alloc (.cells #[.slice none 0 0] 49)).alloc (.cells #[.int .i64 0] 3)) 24 (.int .i64 0);rw[ln,ln,S]at this;exact this.alloc _
 have hs0:Boxed ((((w.alloc (.cells #[.slice none 0 0] 49)).alloc (.cells #[.int .i64 0] 3)).alloc (.cells #[.int .i64 0] 24)).alloc (.cells #[.string s] 9)) (n0+1+1+1) 9 (.string s):=by
  have:=Boxed.new (((w.alloc (.cells #[.slice none 0 0] 49)).alloc (.cells #[.int .i64 0] 3)).alloc (.cells #[.int .i64 0] 24)) 9 (.string s);rw[ln,ln,ln,S]at this;exact this
 have hsz:((((w.alloc (.cells #[.slice none 0 0] 49)).alloc (.cells #[.int .i64 0] 3)).alloc (.cells #[.int .i64 0] 24)).alloc (.cells #[.string s] 9)).heap.size=n0+1+1+1+1:=by
  simp only[ln,S]
 have hr0:((((w.alloc (.cells #[.slice none 0 0] 49)).alloc (.cells #[.int .i64 0] 3)).alloc (.cells #[.int .i64 0] 24)).alloc (.cells #[.string s] 9)).ownsRow n0 60 2 (.slice none 0 0) 0 []:=cB _ _ _ _;have hm0:zf ((((w.alloc (.cells #[.slice none 0 0] 49)).alloc (.cells #[.int .i64 0] 3)).alloc (.cells #[.int .i64 0] 24)).alloc (.cells #[.string s] 9)):=hmZ.aK (by rw[<-S];exact hmZ.lt) hB0;have hmlt:0<n0:=by rw[<-S];exact hmZ.lt
 have hwn:n0<=w.heap.size:=aa
 rw[S];generalize ((((w.alloc (.cells #[.slice none 0 0] 49)).alloc (.cells #[.int .i64 0] 3)).alloc (.cells #[.int .i64 0] 24)).alloc (.cells #[.string s] 9))=W0Z at*;refine(wpIn_wide (n:=3)).1 ?_
 refine wpIn_rangeFunc_ownF rfl aa (gf:=205) (lb:=#[.pointer (some ⟨n0+1+1+1,0,none⟩)]) rfl trivial (enters_of Tryz.func205 ca rfl)
  (Z8 _ aa s hs (n0+1+1+1) _ hs0 hm0) pz (j8 aa aa) (Below.refl _ _) (fun _=>rfl)
  (Zw n0 w s) (Out n0 w) (D9 n0 w s _ hwn aa) (fun c=>zaf n0 w c _ hwn aa)
  ⟨⟨⟨⟨_,hl0,hr0,trivial⟩,hb0,he0,hs0⟩,s4⟩,hB0⟩ (YT n0 s) ?assign ?body ?done ?stop
 case assign=>
  intro l x W K hKZ
  gi_wp2
  exact hKZ
 case body=>
  rintro l pre x W ⟨⟨⟨⟨v,y,J,_⟩,E,t,hbs⟩,A⟩,hBZ⟩ hlen;have hcl:=y.cell;have hcb:=E.cell;have hce:=t.cell;have hfl:=y.frozen;have hfb:=E.frozen;have hfe:=t.frozen;have P:=Lib.hid y;have u:=Lib.hid E;have O:=Lib.hid t;have HSZ:=Lib.hid hbs;clear y E t hbs;obtain⟨⟨p,at_⟩,hpZ⟩:=x;dsimp only at hpZ;unfold YT;dsimp only;by_cases heZ:p.data.toList=[]
  ·obtain rfl:p=⟨#[]⟩:=by cases p with|mk d=>simp_all
   clear heZ
   gi_wp2
   refine⟨KeepsOthers.setCell _ _ _,.inr ⟨⟨⟨⟨v,P.out.other aa _,?_,trivial⟩,?_,?_⟩,rfl,pre,_,rfl,A,rfl⟩,hBZ.setCell (p:=⟨n0+1,0,none⟩) ea _⟩⟩
   ·grind [Pv,Hid.out]
   ·rw[List.getLast?_concat];exact u.out.set _
   ·rw[List.dropLast_concat];exact O.out.other aa _
  ·have HNE:=Lib.hid heZ;clear heZ
   have e1:p.toList=[] ↔ False:=by rw[Lib.toList_data];exact iff_of_false HNE.out id
   have e2:p.toList.isEmpty=false:=by
    rw[Lib.toList_data];cases h:p.data.toList with
    |nil=>grind [Hid.out]
    |cons _ _=>rfl
   have hpos:0<p.size:=by
    rcases Nat.eq_zero_or_pos p.size with h|h
    ·simp_all
    ·exact h
   obtain⟨W1Z,H,I,hl1,hb1,he1,hs1,B,hB1,hk1,hkp1⟩:∃W1Z:World,(998<p.size->W.setCell ⟨n0+1+1,0,none⟩ (.int .i64 6)=W1Z)/\(¬998<p.size->W=W1Z)/\Boxed W1Z n0 49 v/\Boxed W1Z (n0+1) 3 (.int .i64 0)/\
    Boxed W1Z (n0+1+1) 24 (.int .i64 (if(Zb pre).2||decide (998<p.data.toList.length)then 6 else 0))/\Boxed W1Z (n0+1+1+1) 9 (.string s)/\W1Z.ownsRow n0 60 2 v (Zb pre).1.length (Zd (Zb pre).1)/\Below n0 w W1Z/\KeepsOthers W W1Z/\Dk (n0+1+1+1) 0 W W1Z:=by
    rw[show p.data.toList.length=p.size from rfl];by_cases j:998<p.size
    ·refine⟨_,fun _=>rfl,fun h=>absurd j h,P.out.other aa _,u.out.other aa _,?_,HSZ.out.other aa _,Pv O.out ha J _,hBZ.setCell (p:=⟨n0+1+1,0,none⟩) na _,KeepsOthers.setCell _ _ _,nR aa aa _ _⟩
     rw[show decide (998<p.size)=true by grind,nn];exact O.out.set _
    grind [Hid.out,KeepsOthers.refl,mR,Boxed.lt,Below.refl]
   clear P u O HSZ;have hcl1:=hl1.cell;have hcb1:=hb1.cell;have hce1:=he1.cell;have hfl1:=hl1.frozen;have hfb1:=hb1.frozen;have hfe1:=he1.frozen;have P:=Lib.hid hl1;have u:=Lib.hid hb1;have O:=Lib.hid he1;have HSZ:=Lib.hid hs1;clear hl1 hb1 he1 hs1;have hpm:p.size<=maxLen:=by unfold maxLen;omega
   have z:=y4 p hpos;rcases y:nc p[0]with _|_
   ·rw[y]at z
    obtain⟨q1Z,q2Z⟩:=YW _ y;clear y;have hm1:=hmZ.aK aa hB1;have hBs:=hB1.size;rcases R:th 58 p.data.toList with _|k
    ·have T:=Lib.hid (zeq (st:=Zb pre) z R)
     have HCO:=Lib.hid R;clear R z;by_cases j:998<p.size
     all_goals first|(replace H:=H j;clear I)|(obtain rfl:=I j;clear H I)
     all_goals
      gi_wp2_with (refine⟨trivial,?_⟩;gi_at_call 39;refine(CallsIn.inRound l (callsIn_wide.2 (D0 58 p _ hm1 aa HCO.out))).mono ?_;rintro e V ⟨rfl,o⟩;have N:Boxed V n0 49 v:=(o.block _ P.out.lt).trans P.out;have C:Boxed V (n0+1) 3 (.int .i64 0):=(o.block _ u.out.lt).trans u.out;have M:Boxed V (n0+1+1) 24 (.int .i64 (if((Zb pre).2||decide (998<p.data.toList.length))=true then 6 else 0)):=(o.block _ O.out.lt).trans O.out;have hcl2:=Boxed.cell N;have hfl2:=Boxed.frozen N;have hcb2:=Boxed.cell C;have hfb2:=Boxed.frozen C;have hce2:=Boxed.cell M;have hfe2:=Boxed.frozen M;have HL2:=Lib.hid N;have HB2:=Lib.hid C;have HE2:=Lib.hid M;clear N C M)
      refine⟨trivial,?_⟩
      gi_wp2
      refine⟨trivial,?_⟩
      gi_wp2
      exact Nu (x:=⟨(p,at_),hpZ⟩) HL2.out HB2.out HE2.out (hB1.trans (o.mono (Xf hwn hBs))) (hk1.trans (rz o)) A HNE.out T.out
    ·have hkl:=OC R
     rw[show p.data.toList.length=p.size from rfl]at hkl;rcases hna:ji (p.data.toList.take k)with _|_
     ·have T:=Lib.hid (zer (st:=Zb pre) z R hna)
      have HCO:=Lib.hid R;have HNA:=Lib.hid hna;clear R z hna;by_cases j:998<p.size
      all_goals first|(replace H:=H j;clear I)|(obtain rfl:=I j;clear H I)
      all_goals
       gi_wp2_with (first|(refine⟨trivial,?_⟩;gi_at_call 39;refine(CallsIn.inRound l (callsIn_wide.2 (qD 58 p _ hm1 aa k HCO.out))).mono ?_;rintro e V ⟨a,b,rfl,hak,hbk,hal,y,o⟩;have haz:a.size<=maxLen:=(by unfold maxLen;omega);have HAK:=Lib.hid hak;clear hak;have N:Boxed V n0 49 v:=(o.block _ P.out.lt).trans P.out;have C:Boxed V (n0+1) 3 (.int .i64 0):=(o.block _ u.out.lt).trans u.out;have M:Boxed V (n0+1+1) 24 (.int .i64 (if((Zb pre).2||decide (998<p.data.toList.length))=true then 6 else 0)):=(o.block _ O.out.lt).trans O.out;have hcl2:=Boxed.cell N;have hfl2:=Boxed.frozen N;have hcb2:=Boxed.cell C;have hfb2:=Boxed.frozen C;have hce2:=Boxed.cell M;have hfe2:=Boxed.frozen M;have HL2:=Lib.hid N;have HB2:=Lib.hid C;have HE2:=Lib.hid M;clear N C M;have Y:=aA B o;have hs2:Boxed V (n0+1+1+1) 9 (.string s):=(o.block _ HSZ.out.lt).trans HSZ.out;have HS2:=Lib.hid hs2;clear hs2;have hw2n:n0<=V.heap.size:=(by have:=o.size;omega))|(refine⟨trivial,?_⟩;gi_at_call 137;refine(CallsIn.inRound l (callsIn_wide.2 (TG a false (by rw[hal.out];exact HNA.out) _ haz))).mono ?_;rintro e w3Z ⟨rfl,rfl⟩))
       refine⟨trivial,?_⟩
       gi_wp2
       exact Nu (x:=⟨(p,at_),hpZ⟩) HL2.out HB2.out HE2.out (hB1.trans (o.mono (Xf hwn hBs))) (hk1.trans (rz o)) A HNE.out T.out
     ·rcases U:p.data.toList.all Ki with _|_
      ·have T:=Lib.hid (WU (st:=Zb pre) U)
       have HSH:=Lib.hid U;have HCO:=Lib.hid R;have HNA:=Lib.hid hna;clear R z hna U;by_cases j:998<p.size
       all_goals first|(replace H:=H j;clear I)|(obtain rfl:=I j;clear H I)
       all_goals
        gi_wp2_with (first|(refine⟨trivial,?_⟩;gi_at_call 39;refine(CallsIn.inRound l (callsIn_wide.2 (qD 58 p _ hm1 aa k HCO.out))).mono ?_;rintro e V ⟨a,b,rfl,hak,hbk,hal,y,o⟩;have haz:a.size<=maxLen:=(by unfold maxLen;omega);have HAK:=Lib.hid hak;clear hak;have N:Boxed V n0 49 v:=(o.block _ P.out.lt).trans P.out;have C:Boxed V (n0+1) 3 (.int .i64 0):=(o.block _ u.out.lt).trans u.out;have M:Boxed V (n0+1+1) 24 (.int .i64 (if((Zb pre).2||decide (998<p.data.toList.length))=true then 6 else 0)):=(o.block _ O.out.lt).trans O.out;have hcl2:=Boxed.cell N;have hfl2:=Boxed.frozen N;have hcb2:=Boxed.cell C;have hfb2:=Boxed.frozen C;have hce2:=Boxed.cell M;have hfe2:=Boxed.frozen M;have HL2:=Lib.hid N;have HB2:=Lib.hid C;have HE2:=Lib.hid M;clear N C M;have Y:=aA B o;have hs2:Boxed V (n0+1+1+1) 9 (.string s):=(o.block _ HSZ.out.lt).trans HSZ.out;have HS2:=Lib.hid hs2;clear hs2;have hw2n:n0<=V.heap.size:=(by have:=o.size;omega))|(refine⟨trivial,?_⟩;gi_at_call 137;refine(CallsIn.inRound l (callsIn_wide.2 (TG a true (by rw[hal.out];exact HNA.out) _ haz))).mono ?_;rintro e w3Z ⟨rfl,rfl⟩)|(refine⟨trivial,?_⟩;gi_at_call 136;refine(CallsIn.inRound l (callsIn_wide.2 (vA p false HSH.out _ hpm))).mono ?_;rintro e w3Z ⟨rfl,rfl⟩))
        exact Nu (x:=⟨(p,at_),hpZ⟩) HL2.out HB2.out HE2.out (hB1.trans (o.mono (Xf hwn hBs))) (hk1.trans (rz o)) A HNE.out T.out
      ·obtain⟨i0Z,hi0,hz0,hz1,hz2⟩:=info_parts Q4
       have hgl:=jE A;have Z:=VU (st:=Zb pre) U z R hna;have T:=Lib.hid Z;have HSH:=Lib.hid U;have HCO:=Lib.hid R;have HNA:=Lib.hid hna;clear R z hna U Z;by_cases j:998<p.size
       all_goals first|(replace H:=H j;clear I)|(obtain rfl:=I j;clear H I)
       all_goals
        gi_wp2_with (first|(refine⟨trivial,?_⟩;gi_at_call 39;refine(CallsIn.inRound l (callsIn_wide.2 (qD 58 p _ hm1 aa k HCO.out))).mono ?_;rintro e V ⟨a,b,rfl,hak,hbk,hal,y,o⟩;have haz:a.size<=maxLen:=(by unfold maxLen;omega);have HAK:=Lib.hid hak;clear hak;have N:Boxed V n0 49 v:=(o.block _ P.out.lt).trans P.out;have C:Boxed V (n0+1) 3 (.int .i64 0):=(o.block _ u.out.lt).trans u.out;have M:Boxed V (n0+1+1) 24 (.int .i64 (if((Zb pre).2||decide (998<p.data.toList.length))=true then 6 else 0)):=(o.block _ O.out.lt).trans O.out;have hcl2:=Boxed.cell N;have hfl2:=Boxed.frozen N;have hcb2:=Boxed.cell C;have hfb2:=Boxed.frozen C;have hce2:=Boxed.cell M;have hfe2:=Boxed.frozen M;have HL2:=Lib.hid N;have HB2:=Lib.hid C;have HE2:=Lib.hid M;clear N C M;have Y:=aA B o;have hs2:Boxed V (n0+1+1+1) 9 (.string s):=(o.block _ HSZ.out.lt).trans HSZ.out;have HS2:=Lib.hid hs2;clear hs2;have hw2n:n0<=V.heap.size:=(by have:=o.size;omega))|(refine⟨trivial,?_⟩;gi_at_call 137;refine(CallsIn.inRound l (callsIn_wide.2 (TG a true (by rw[hal.out];exact HNA.out) _ haz))).mono ?_;rintro e w3Z ⟨rfl,rfl⟩)|(refine⟨trivial,?_⟩;gi_at_call 136;refine(CallsIn.inRound l (callsIn_wide.2 (vA p true HSH.out _ hpm))).mono ?_;rintro e w3Z ⟨rfl,rfl⟩)|(gi_at_builtin;refine wpListIn_append_own _ rfl _ _ 49 rfl n0 60 i0Z _ 2 32 Tryz.underlying49 hi0 hz0 hz1 hz2 rfl ha _ _ _ rfl (Y.alloc _) ⟨V.heap.size,0,none⟩ 1 1 [.string a,.string b] rfl rfl (cell_two_new _ _ _ _) (by simp[Value.oneCell']) (by unfold maxLen;omega) aa Ma ?_;intro v3 w3Z hown3 hgr3 _;obtain⟨g3,cap3,rfl⟩:=ownsRow_succ hown3;have hap:=Boxed.appended HL2.out ha Y hw2n (Aa _) hown3 hgr3;have hc3:=hap.1.cell;have hf3:=hap.1.frozen;clear hap))
        exact p3 hpZ HL2.out HB2.out HE2.out HS2.out (hB1.trans (o.mono (Xf hwn hBs))) (hk1.trans (rz o)) (pz hkp1 (mR HSZ.out.lt hm1.lt o)) A HNE.out T.out hal.out y.out Y hw2n hmlt hown3 hgr3
   ·rw[y]at z
    have C:=ZW _ y;clear y;rcases N:(Zb pre).1.reverse with _|⟨q,R⟩
    ·have hF:(Zb pre).1=[]:=by simpa using N
     have T:=Lib.hid (zeo (l:=p.data.toList) z hF);have M:(Zb pre).1.length=0:=by rw[hF];rfl
     clear N hF z;rw[M]at B;clear M;have Y:∃a o,v=.slice a 0 o:=by
      rcases VH B with⟨h,_⟩|⟨g,o,h,_⟩
      ·exact⟨_,_,h⟩
      ·exact⟨_,_,h⟩
     obtain⟨a,o,rfl⟩:=Y;clear B;by_cases j:998<p.size
     all_goals first|(replace H:=H j;clear I)|(obtain rfl:=I j;clear H I)
     all_goals rcases C with q1Z|⟨q1Z,q2Z⟩
     all_goals
      gi_wp2
      refine⟨trivial,?_⟩
      gi_wp2
      exact Nu (x:=⟨(p,at_),hpZ⟩) P.out u.out O.out hB1 hk1 A HNE.out T.out
    ·have hF:(Zb pre).1=R.reverse++[q]:=by rw[<-List.reverse_reverse (Zb pre).1,N,List.reverse_cons]
     obtain⟨F0,Y⟩:∃F0,R.reverse=F0:=⟨_,rfl⟩;rw[Y]at hF;have M:(Zb pre).1.length=F0.length+1:=by rw[hF];simp
     rw[M,hF,aE]at B;obtain⟨m,hm0⟩:∃m,F0.length=m:=⟨_,rfl⟩;rw[hm0]at B;obtain⟨g,o,rfl,hg0,hglt,hcap⟩:∃g o,v=.slice (some ⟨g,0,none⟩) (m+1) o/\n0<=g/\g<W1Z.heap.size/\m+1<=o:=by
      grind [VH]
     have Ub:=B.cellAt (m* 2+1) aa;rw[Pf (by rw[Mu];omega),Mu,hm0,show m* 2+1 - m* 2=1 by omega]at Ub;have hfro:=B.frozenAt (m* 2+1);have Q:W1Z.cell? ⟨g,m* 2+1,none⟩=some (.string ⟨q.2.toArray⟩):=Ub;have X:=Lib.hid B;have HFZ:=Lib.hid hF;have hml:m<=1000001:=by have:=jE A;omega
     have HMZ:=Lib.hid hm0;have hqs:(ByteArray.mk q.2.toArray).size<=200000000:=by
      have:=eQ A q (by rw[hF];simp);show q.2.length<=_;omega
     clear Ub hF N Y M B hm0;rcases U:p.data.toList.all Ki with _|_
     ·have T:=Lib.hid (WU (st:=Zb pre) U)
      have HSH:=Lib.hid U;clear U z;by_cases j:998<p.size
      all_goals first|(replace H:=H j;clear I)|(obtain rfl:=I j;clear H I)
      all_goals rcases C with q1Z|⟨q1Z,q2Z⟩
      all_goals
       gi_wp2_with (refine⟨trivial,?_⟩;gi_at_call 136;refine(CallsIn.inRound l (callsIn_wide.2 (vA p false HSH.out _ hpm))).mono ?_;rintro e V ⟨rfl,rfl⟩)
       exact Nu (x:=⟨(p,at_),hpZ⟩) P.out u.out O.out hB1 hk1 A HNE.out T.out
     ·have Z:=UU (st:=Zb pre) (l:=p.data.toList) U z HFZ.out
      have T:=Lib.hid Z;have HSH:=Lib.hid U;clear U z Z;by_cases j:998<p.size
      all_goals first|(replace H:=H j;clear I)|(obtain rfl:=I j;clear H I)
      all_goals rcases C with q1Z|⟨q1Z,q2Z⟩
      all_goals
       gi_wp2_with (refine⟨trivial,?_⟩;gi_at_call 136;refine(CallsIn.inRound l (callsIn_wide.2 (vA p true HSH.out _ hpm))).mono ?_;rintro e V ⟨rfl,rfl⟩)
       exact p8 hpZ P.out u.out O.out HSZ.out hB1 hk1 hkp1 A HNE.out T.out HMZ.out hg0 X.out hmlt
 case done=>
  rintro D xs W hDZ j ⟨⟨⟨⟨v,y,J,_⟩,E,t,hbs⟩,A⟩,hBZ⟩ hKZ;have G:ih s.data.toList=.form:=by
   unfold ih;rw[<-j,<-Sg (xs.map Ge.pair),ZH A];rfl
  have hcl:=y.cell;have hcb:=E.cell;have hce:=t.cell;have hfl:=y.frozen;have hfb:=E.frozen;have hfe:=t.frozen;have HKZ:=Lib.hid hKZ;have HFo:=Lib.hid G;have P:=Lib.hid y;have u:=Lib.hid E;have O:=Lib.hid t;clear y E t hbs hKZ G j;go_wp2;rw[HFo.out];have hK2:=(((KeepsOthers.setCell W ⟨n0,0,none⟩ (.slice none 0 0)).trans (KeepsOthers.setCell _ ⟨n0+1,0,none⟩ (.int .i64 0))).trans (KeepsOthers.setCell _ ⟨n0+1+1,0,none⟩ (.int .i64 7))).same D _ HKZ.out rfl;have h1Z:=(((P.out.set (.slice none 0 0)).other (show n0≠n0+1 by omega) (.int .i64 0)).other (show n0≠n0+1+1 by omega) (.int .i64 7));have h2Z:=(((u.out.other (show n0+1≠n0 by omega) (.slice none 0 0)).set (.int .i64 0)).other (show n0+1≠n0+1+1 by omega) (.int .i64 7));have h3Z:=(((O.out.other (show n0+1+1≠n0 by omega) (.slice none 0 0)).other (show n0+1+1≠n0+1 by omega) (.int .i64 0)).set (.int .i64 7));have h4Z:=((hBZ.setCell (p:=⟨n0,0,none⟩) (Aa _) (.slice none 0 0)).setCell (p:=⟨n0+1,0,none⟩) ea (.int .i64 0)).setCell (p:=⟨n0+1+1,0,none⟩) na (.int .i64 7);refine⟨ea,.inl ⟨_,_,rfl,run_takeDeferred hK2,?_⟩⟩;have hd0:D≠n0:=aa
  have hd1:D≠n0+1:=aa
  have hd2:D≠n0+1+1:=aa
  have c1:=(gl hd0 h1Z (.deferred none)).cell;have c2:=(gl hd1 h2Z (.deferred none)).cell;have c3:=(gl hd2 h3Z (.deferred none)).cell;exact⟨_,nA c1 c2 c3,rfl,by rw[S];exact h4Z.trans (belowK_b (w:=w) hwn _ D _ _ aa hK2 rfl rfl)⟩
 case stop=>
  rintro D c pre W hDZ B hout hKZ;rcases hout with⟨⟨⟨y,E,t⟩,rfl,z,x,rfl,T,hxZ,R⟩,hBZ⟩|⟨⟨⟨⟨v,y,J,_⟩,E,t⟩,rfl,z,x,rfl,T,hxZ⟩,hBZ⟩
  ·have G:ih s.data.toList=.form:=by
    obtain⟨r,hr⟩:=B;unfold ih;rw[<-hr,Zf,vc,ZH T,Eg];show(match zj ((x.1.1.data.toList,x.1.2)::r) _ with|none=>Split.form|some (_,true,_)=>.long|some (f,false,b)=>.ok (f.map fun p:kf=>(p.1,trimB p.2)) b)=_;rw[zj,if_neg hxZ,R]
   have hcl:=y.cell;have hcb:=E.cell;have hce:=t.cell;have hfl:=y.frozen;have hfb:=E.frozen;have hfe:=t.frozen;have HKZ:=Lib.hid hKZ;have HFo:=Lib.hid G;have P:=Lib.hid y;have u:=Lib.hid E;have O:=Lib.hid t;clear y E t hKZ G
   gi_wp2
   rw[HFo.out];refine⟨ea,.inl ⟨_,_,rfl,run_takeDeferred HKZ.out,?_⟩⟩;have hd0:D≠n0:=aa
   have hd1:D≠n0+1:=aa
   have hd2:D≠n0+1+1:=aa
   have c1:=(gl hd0 P.out (.deferred none)).cell;have c2:=(gl hd1 u.out (.deferred none)).cell;have c3:=(gl hd2 O.out (.deferred none)).cell;exact⟨_,nA c1 c2 c3,rfl,by rw[S];exact hBZ.trans (belowK_b (w:=w) hwn _ D _ _ aa HKZ.out rfl rfl)⟩
  ·rw[List.dropLast_concat]at J t
   rw[List.getLast?_concat]at E;have C:zj (Uf s.data.toList 0) ([],false)=some ((Zb z).1,(Zb z).2,x.1.2):=by
    obtain⟨r,hr⟩:=B;rw[<-hr,Zf,vc,ZH T,Eg];show zj ((x.1.1.data.toList,x.1.2)::r) _=_;rw[zj,if_pos hxZ]
   have hat:2<=x.1.2:=by
    obtain⟨r,hr⟩:=B;exact M5 _ _ _ (Aa _) (x.1.1.data.toList,x.1.2) (by rw[<-hr,Zf,Eg];simp[Ge.pair])
   have hgl:=jE T;have hgv:=eQ T;have hpl:z.length<=10000:=by
    obtain⟨r,hr⟩:=B;have h1Z:=L5 _ s.data.toList 0 (Aa _);rw[<-hr,Ba,jn,Ba,show s.data.toList.length=s.size from rfl]at h1Z;omega
   generalize R:Zb z=st at*;obtain⟨F,L⟩:=st;obtain⟨⟨p,at_⟩,hpZ⟩:=x;dsimp only at J t E C hat hgl hgv hpZ;replace E:Boxed W (n0+1) 3 (.int .i64 at_):=E;have hcl:=y.cell;have hcb:=E.cell;have hce:=t.cell;have hfl:=y.frozen;have hfb:=E.frozen;have hfe:=t.frozen;have HKZ:=Lib.hid hKZ;have P:=Lib.hid y;have u:=Lib.hid E;have HRZ:=Lib.hid C;clear y E hKZ C R hxZ T B hce hfe;cases L
   ·replace t:Boxed W (n0+1+1) 24 (.int .i64 0):=t
    have hce:=t.cell;have hfe:=t.frozen;have O:=Lib.hid t;clear t;have G:ih s.data.toList=.ok (F.map fun p=>(p.1,trimB p.2)) at_:=by unfold ih;rw[HRZ.out]
    have HFo:=Lib.hid G;clear G;obtain⟨a0,j,rfl,N⟩:∃a0 j,v=.slice a0 F.length j/\(F.length=0\/∃g,a0=some ⟨g,0,none⟩/\n0<=g/\F.length<=j):=by
     grind [VH]
    obtain⟨n,hnZ⟩:∃n,F.length=n:=⟨_,rfl⟩;rw[hnZ]at P hcl J N hgl;have HNZ:=Lib.hid hnZ;have HAZ:=Lib.hid N;clear hnZ N
    gi_wp2
    go_wp2
    go_loopw [10,79] (fun _ i wr=>∃k:Nat,i=.int .i64 k/\k<=n/\Hid (Boxed wr n0 49 (.slice a0 n j))/\Hid (Boxed wr (n0+1) 3 (.int .i64 at_))/\Hid (Boxed wr (n0+1+1) 24 (.int .i64 0))/\Hid (wr.ownsRow n0 60 2 (.slice a0 n j) n (Zd ((F.take k).map (fun p=>(p.1,trimB p.2))++F.drop k)))/\Below n0 w wr/\Hid (wr.heap[D]?=some (.deferred (some []))))
     (fun _ i _=>n - (intOf i).toNat)
    case atStart=>grind [Lib.hid]
    case round=>
     clear hcl hcb hce hfl hfb hfe J P u O hBZ;obtain⟨k,rfl,hkZ,P,u,O,X,hBZ,H⟩:=hrel;have hcl:=P.out.cell;have hcb:=u.out.cell;have hce:=O.out.cell;have hfl:=P.out.frozen;have hfb:=u.out.frozen;have hfe:=O.out.frozen;by_cases fa:k<n
     ·obtain⟨g,rfl,hg0,hcap⟩:∃g,a0=some ⟨g,0,none⟩/\n0<=g/\n<=j:=HAZ.out.resolve_left aa
      have hkF:k<F.length:=by rw[HNZ.out];exact fa
      obtain⟨q,hqZ⟩:∃q,F[k]=q:=⟨_,rfl⟩;have M:Zd ((F.take k).map (fun p=>(p.1,trimB p.2))++F.drop k)=Zd ((F.take k).map (fun p=>(p.1,trimB p.2)))++([.string ⟨q.1.toArray⟩,.string ⟨q.2.toArray⟩]++Zd (F.drop (k+1))):=by
       rw[Pd hkF,hqZ];simp[Zd]
      have hml:(Zd ((F.take k).map (fun p=>(p.1,trimB p.2)))).length=k* 2:=by rw[Mu,jn,Se];omega
      have J:=X.out;rw[M]at J;have Ub:=J.cellAt (k* 2+1) aa;rw[Pf aa,hml,show k* 2+1 - k* 2=1 by omega]at Ub;have Q:=Ub;have hfro:=J.frozenAt (k* 2+1);have Y:=Lib.hid J;have hqv:=hgv q na;have hqs:(ByteArray.mk q.2.toArray).size<=1000000000:=by show q.2.length<=_;omega
      have hne1:n0≠g:=fun e=>P.out.not_row ha X.out (by rw[e];rfl)
      have hne2:n0+1≠g:=fun e=>u.out.not_row ha X.out (by rw[e];rfl)
      have hne3:n0+1+1≠g:=fun e=>O.out.not_row ha X.out (by rw[e];rfl)
      have V:=Lib.hid hml;have HKF:=Lib.hid hkF;have HQZ:=Lib.hid hqZ;clear Ub J M hml hqZ;have hki:(k:Int)<(n:Int):=aa
      go_wp2;have hglt:=Et wr _ Q;have hclq:=fun d os=>cell_regrown hcl d os
      have hcgq:=fun d os=>cell_regrown Q d os
      (refine zb5 8 ca ca ?_;simp only[Aw,List.take_zero];(repeat (first|go_big_quiet_skip|(go_big_quiet_want;go_big_quiet_op;first|go_big_quiet_on|(apply Exists.intro;refine⟨fun _=>?_,?_⟩;(· (go_at_call 138;exact zcd (zfe _ · hqs)));go_big_quiet_on))));refine wpQuiet_nil ?_;intro wqZ o;simp only[Zl,yf])
      have hcg5:=(o.cell (p:=⟨g,k* 2+1,none⟩) hglt).trans Q;have hfg5:=(o.frozen (p:=⟨g,k* 2+1,none⟩) hglt).trans hfro;have hL5:=(o.block _ P.out.lt).trans P.out;have Z:=(o.block _ u.out.lt).trans u.out;have hE5:=(o.block _ O.out.lt).trans O.out;have hK5:=(o.block D (Kh.1 H.out).1).trans H.out;have hR5:=(aA Y.out o).stored (k* 2+1) (.string ⟨(trimB q.2).toArray⟩);have hR6:=Lib.hid hR5.1;have HL5:=Lib.hid hL5;have HB5:=Lib.hid Z;have HE5:=Lib.hid hE5;have HK5:=Lib.hid hK5;have I:=(hBZ.trans (o.mono (Xf hwn hBZ.size))).setCell (p:=⟨g,k* 2+1,none⟩) hg0 (.string ⟨(trimB q.2).toArray⟩);have U:=Lib.hid I;clear hclq hcgq hL5 Z hE5 hK5 hR5 I hcl hcb hce hfl hfb hfe Q hfro;go_wp2;go_roundw
      case rel=>
       refine⟨k+1,by go_num,aa,Lib.hid ((Below.heap_setCell _ _ _ _ hne1).trans HL5.out),Lib.hid ((Below.heap_setCell _ _ _ _ hne2).trans HB5.out),Lib.hid ((Below.heap_setCell _ _ _ _ hne3).trans HE5.out),Lib.hid ?_,U.out,Lib.hid ((Below.heap_setCell _ _ _ _ ?_).trans HK5.out)⟩
       ·have h:=hR6.out
        have e:(Zd ((F.take k).map (fun p:kf=>(p.1,trimB p.2)))++([Value.string ⟨q.1.toArray⟩,Value.string ⟨q.2.toArray⟩]++Zd (F.drop (k+1)))).set (k* 2+1) (Value.string ⟨(trimB q.2).toArray⟩)=Zd ((F.take (k+1)).map (fun p:kf=>(p.1,trimB p.2))++F.drop (k+1)):=by
         rw[Dt _ _ (by rw[V.out];omega),V.out,show k* 2+1 - k* 2=1 by omega,oo HKF.out,HQZ.out];simp[Zd]
        grind
       ·intro e
        subst e;have h:=H.out;have h2Z:=Y.out;rcases h2Z.2 with⟨h'Z,_⟩|⟨g'Z,cap',cur,h'Z,_,hhZ,_⟩<;>grind
      case measure=>simp[intOf];omega
     ·obtain rfl:k=n:=aa
      go_wp2
      go_region
      all_goals
       go_wp2;rw[HFo.out];have hK2:=(((KeepsOthers.setCell wr ⟨n0,0,none⟩ (.slice a0 k j)).trans (KeepsOthers.setCell _ ⟨n0+1,0,none⟩ (.int .i64 at_))).trans (KeepsOthers.setCell _ ⟨n0+1+1,0,none⟩ (.int .i64 0))).same D _ H.out rfl;have h1Z:=(((P.out.set (.slice a0 k j)).other (show n0≠n0+1 by omega) (.int .i64 at_)).other (show n0≠n0+1+1 by omega) (.int .i64 0));have h2Z:=(((u.out.other (show n0+1≠n0 by omega) (.slice a0 k j)).set (.int .i64 at_)).other (show n0+1≠n0+1+1 by omega) (.int .i64 0));have h3Z:=(((O.out.other (show n0+1+1≠n0 by omega) (.slice a0 k j)).other (show n0+1+1≠n0+1 by omega) (.int .i64 at_)).set (.int .i64 0));have h4Z:=((hBZ.setCell (p:=⟨n0,0,none⟩) (Aa _) (.slice a0 k j)).setCell (p:=⟨n0+1,0,none⟩) ea (.int .i64 at_)).setCell (p:=⟨n0+1+1,0,none⟩) Ma (.int .i64 0);have I:=Pv P.out ha X.out (.slice a0 k j);have M:=Pv (u.out.other (show n0+1≠n0 by omega) (.slice a0 k j)) ha I (.int .i64 at_);have U:=Pv ((O.out.other (show n0+1+1≠n0 by omega) (.slice a0 k j)).other (show n0+1+1≠n0+1 by omega) (.int .i64 at_)) ha M (.int .i64 0);have o:=ownsRow_putObj U (.deferred none) hK2 rfl;rw[uk (by rw[HNZ.out];omega),Ej (by rw[HNZ.out];omega),Sg]at o;refine⟨ea,.inl ⟨_,_,rfl,run_takeDeferred hK2,?_⟩⟩;have hd0:D≠n0:=aa
       have hd1:D≠n0+1:=aa
       have hd2:D≠n0+1+1:=aa
       have c1:=(gl hd0 h1Z (.deferred none)).cell;have c2:=(gl hd1 h2Z (.deferred none)).cell;have c3:=(gl hd2 h3Z (.deferred none)).cell;exact⟨_,nA c1 c2 c3,_,rfl,by rw[S,jn,HNZ.out];exact o,by rw[S];exact(h4Z.drew).trans (belowK_b (w:=w) hwn _ D _ _ aa hK2 rfl rfl)⟩
   ·replace t:Boxed W (n0+1+1) 24 (.int .i64 6):=t
    have hce:=t.cell;have hfe:=t.frozen;have O:=Lib.hid t;clear t;have G:ih s.data.toList=.long:=by unfold ih;rw[HRZ.out]
    have HFo:=Lib.hid G;clear G
    gi_wp2
    go_wp2
    go_region
    all_goals
     go_wp2;rw[HFo.out];have hK2:=(((KeepsOthers.setCell W ⟨n0,0,none⟩ (.slice none 0 0)).trans (KeepsOthers.setCell _ ⟨n0+1,0,none⟩ (.int .i64 0))).trans (KeepsOthers.setCell _ ⟨n0+1+1,0,none⟩ (.int .i64 6))).same D _ HKZ.out rfl;have h1Z:=(((P.out.set (.slice none 0 0)).other (show n0≠n0+1 by omega) (.int .i64 0)).other (show n0≠n0+1+1 by omega) (.int .i64 6));have h2Z:=(((u.out.other (show n0+1≠n0 by omega) (.slice none 0 0)).set (.int .i64 0)).other (show n0+1≠n0+1+1 by omega) (.int .i64 6));have h3Z:=(((O.out.other (show n0+1+1≠n0 by omega) (.slice none 0 0)).other (show n0+1+1≠n0+1 by omega) (.int .i64 0)).set (.int .i64 6));have h4Z:=((hBZ.setCell (p:=⟨n0,0,none⟩) (Aa _) (.slice none 0 0)).setCell (p:=⟨n0+1,0,none⟩) ea (.int .i64 0)).setCell (p:=⟨n0+1+1,0,none⟩) na (.int .i64 6);refine⟨ea,.inl ⟨_,_,rfl,run_takeDeferred hK2,?_⟩⟩;have hd0:D≠n0:=aa
     have hd1:D≠n0+1:=aa
     have hd2:D≠n0+1+1:=aa
     have c1:=(gl hd0 h1Z (.deferred none)).cell;have c2:=(gl hd1 h2Z (.deferred none)).cell;have c3:=(gl hd2 h3Z (.deferred none)).cell;exact⟨_,nA c1 c2 c3,rfl,by rw[S];exact(h4Z.drew).trans (belowK_b (w:=w) hwn _ D _ _ aa hK2 rfl rfl)⟩
def Yg{s}:(S s).data.toList=s:=by simp[S]
def KX(c):((c.toNat:Nat):Int).toNat.toUInt8=c:=by
 simp
def gu{w}:Below w.heap.size w w:=Below.refl _ _
def one(v:Value):ue:=⟨[v],none,[]⟩
def vh(l:List Value):ue:=⟨l,none,[]⟩
variable {Γ:lf}
def qk{f}{spec}(g:Qj Tryz.prog f=true)(h:∀vs R,spec vs=some R->∃l,R=vh l/\(∀v∈l,Bc v=true)/\∀w,Γ.G w->Calls Tryz.prog f vs.toArray w fun e w'=>e=.returned (HA l)/\Below w.heap.size w w'):bi Tryz.prog Γ f spec:=⟨g,fun vs R hs=>by
 obtain⟨l,rfl,a,b⟩:=h vs R hs;refine⟨⟨fun v j=>a v (by grind [vh]),fun c n z ty e=>by cases e⟩,fun w i=>(b w i).mono ?_⟩;rintro e w' ⟨rfl,d⟩;exact⟨.int .i64 0,by simp[vh,ue.vs],(fun c n z ty e=>by cases e),d⟩⟩
def DA:List Value->Option ue
 |[.string s,.int .u8 c]=>some (vh [.int .i64 (Lib.indexByte s.data.toList c.toNat.toUInt8)])
 |_=>none
def zeD:bi Tryz.prog Γ 96 DA:=qk ca fun vs R h=>by
 unfold DA at h;split at h
 ·cases h
  exact⟨_,rfl,by simp[Bc],fun w _=>(Tryz.strings_IndexByte _ _ w).mono (by rintro e w' ⟨rfl,rfl⟩;exact⟨rfl,gu⟩)⟩
 grind
def yI:List Value->Option ue
 |[.string s,.string p]=>some (vh [.bool (Lib.hasPrefix s.data.toList p.data.toList)])
 |_=>none
def zeF:bi Tryz.prog Γ 80 yI:=qk ca fun vs R h=>by
 unfold yI at h;split at h
 ·cases h
  exact⟨_,rfl,by simp[Bc],fun w _=>(Tryz.strings_HasPrefix _ _ w).mono (by rintro e w' ⟨rfl,rfl⟩;exact⟨rfl,gu⟩)⟩
 grind
def ew:List Value->Option ue
 |[.string s]=>if s.size<=1000000 then some (vh [.string (S (ie s.data.toList))])else none
 |_=>none
def zeC:bi Tryz.prog Γ 79 ew:=qk ca fun vs R h=>by
 unfold ew at h;split at h
 ·split at h
  ·rename_i hs
   cases h;exact⟨_,rfl,by simp[Bc],fun w _=>(GP _ w hs).mono (by rintro e w' ⟨rfl,a⟩;exact⟨rfl,a⟩)⟩
  grind
 grind
def Yv:List Value->Option ue
 |[.string s,.string t]=>if s.size<=1000000/\t.size<=1000000 then some (vh [.bool (ie s.data.toList==ie t.data.toList)])else none
 |_=>none
def zev:bi Tryz.prog Γ 140 Yv:=qk ca fun vs R h=>by
 unfold Yv at h;split at h
 ·split at h
  ·rename_i hs
   cases h;exact⟨_,rfl,by simp[Bc],fun w _=>(rW _ _ w hs.1 hs.2).mono (by rintro e w' ⟨rfl,a⟩;exact⟨rfl,a⟩)⟩
  grind
 grind
def xI:List Value->Option ue
 |[.string s,.string p]=>some (vh [.string ⟨(Lib.trimPrefix s.data.toList p.data.toList).toArray⟩,.bool (Lib.hasPrefix s.data.toList p.data.toList)])
 |_=>none
def zew:bi Tryz.prog Γ 90 xI:=qk ca fun vs R h=>by
 unfold xI at h;split at h
 ·cases h
  exact⟨_,rfl,by simp[Bc],fun w _=>(Tryz.strings_CutPrefix _ _ w).mono (by rintro e w' ⟨rfl,rfl⟩;exact⟨rfl,gu⟩)⟩
 grind
def cw:List Value->Option ue
 |[.string s]=>if s.size<=1000000 then some (match Ie s.data.toList with
  |some t=>vh [.string (S t),.int .i64 0]
  |none=>vh [.string (S []),.int .i64 7])else none
 |_=>none
def zeA:bi Tryz.prog Γ 143 cw:=qk ca fun vs R h=>by
 unfold cw at h;split at h
 ·rename_i s
  split at h
  ·rename_i hs
   have a:=fun w=>W0 s w aa
   cases c:Ie s.data.toList with
   |some t=>
    rw[c]at h a;cases h;exact⟨_,rfl,by simp[Bc],fun w _=>(a w).mono (by rintro e w' ⟨rfl,b⟩;exact⟨rfl,b⟩)⟩
   |none=>
    rw[c]at h a;cases h;exact⟨_,rfl,by simp[Bc],fun w _=>(a w).mono (by rintro e w' ⟨rfl,b⟩;exact⟨rfl,b⟩)⟩
  grind
 grind
def Zv:List Value->Option ue
 |[.string s,.string p]=>if s.size<=1000000000 then some (vh [.string ⟨(Lib.cut s.data.toList p.data.toList).1.toArray⟩,.string ⟨(Lib.cut s.data.toList p.data.toList).2.1.toArray⟩,.bool (Lib.cut s.data.toList p.data.toList).2.2])else none
 |_=>none
def zey(a:∀w,Γ.G w->zf w):bi Tryz.prog Γ 39 Zv:=qk ca fun vs R h=>by
 unfold Zv at h;split at h
 ·split at h
  ·rename_i hs
   cases h;refine⟨_,rfl,by simp[Bc],fun w c=>?_⟩;obtain⟨m,b⟩:=a w c;exact(Tryz.strings_Cut _ _ m w aa b).mono (by rintro e w' ⟨rfl,n,rfl⟩;exact⟨rfl,Xr w n⟩)
  grind
 grind
def gw:List Value->Option ue
 |[.string s,.string p]=>if s.size<=1000000000 then some (vh [.int .i64 (Lib.index s.data.toList p.data.toList)])else none
 |_=>none
def zeE(a:∀w,Γ.G w->zf w):bi Tryz.prog Γ 146 gw:=qk ca fun vs R h=>by
 unfold gw at h;split at h
 ·split at h
  ·rename_i hs
   cases h;refine⟨_,rfl,by simp[Bc],fun w c=>?_⟩;obtain⟨m,b⟩:=a w c;exact(Tryz.strings_Index _ _ m w aa b).mono (by rintro e w' ⟨rfl,rfl⟩;exact⟨rfl,gu⟩)
  grind
 grind
def iw:List Value->Option ue
 |[.string s,.string o,.string n]=>if s.size<=1000000/\1<=o.size/\n.size<=10 then some (vh [.string ⟨(Lib.replaceAll s.data.toList o.data.toList n.data.toList).toArray⟩])else none
 |_=>none
def zeG(b:∀w,Γ.G w->zf w):bi Tryz.prog Γ 42 iw:=qk ca fun vs R h=>by
 unfold iw at h;split at h
 ·rename_i s o n
  split at h
  ·rename_i hs
   cases h;refine⟨_,rfl,by simp[Bc],fun w i=>?_⟩;obtain⟨m,g⟩:=b w i;have d:=Lib.countB_le o hs.2.1 s.size s (Aa _);have a:=Nat.mul_le_mul aa hs.2.2;exact(Tryz.strings_ReplaceAll s o n m w aa g hs.2.1 aa).mono (by rintro e w' ⟨rfl,c⟩;exact⟨rfl,c⟩)
  grind
 grind
theorem D3:∀l,∀v∈Zd l,Bc v=true/\v.oneCell'=true:=by
 intro l
 induction l with
 |nil=>grind [Zd]
 |cons a l b=>
  intro v h;simp only[Zd,fm,Ue,wb,Nt,or_false]at h;rcases h with(rfl|rfl)|h
  ·exact⟨rfl,rfl⟩
  ·exact⟨rfl,rfl⟩
  ·exact b v h
theorem uP:∀l,(Zd l).map PV.flat=Jg l
 |[]=>rfl
 |(a,b)::l=>by
  have h:=uP l;simp only[Zd,fm,gc,Ha,Ra,Jg]at h⊢;rw[h];rfl
def jw:List Value->Option ue
 |[.string s]=>if s.size<=10000 then some (match ih s.data.toList with
  | .form=>⟨[],some ([],0,2,60),[.int .i64 0,.int .i64 7]⟩
  | .long=>⟨[],some ([],0,2,60),[.int .i64 0,.int .i64 6]⟩
  | .ok l b=>⟨[],some (Zd l,l.length,2,60),[.int .i64 b,.int .i64 0]⟩)else none
 |_=>none
def zeH(i:∀w,Γ.G w->zf w):bi Tryz.prog Γ 75 jw:=⟨ca,fun vs R h=>by
 unfold jw at h;split at h
 ·rename_i s
  split at h
  ·rename_i hs
   have a:=fun w k=>zdG s w k hs
   cases j:ih s.data.toList with
   |form=>
    rw[j]at h a;cases h;exact⟨⟨by simp[Bc],fun c n z ty e=>by grind⟩,fun w g=>(a w (i w g)).mono (by rintro e w' ⟨rfl,d⟩;exact⟨.slice none 0 0,rfl,(fun c n z ty e=>by grind [World.ownsRow_nil]),d⟩)⟩
   |long=>
    rw[j]at h a;cases h;exact⟨⟨by simp[Bc],fun c n z ty e=>by grind⟩,fun w g=>(a w (i w g)).mono (by rintro e w' ⟨rfl,d⟩;exact⟨.slice none 0 0,rfl,(fun c n z ty e=>by grind [World.ownsRow_nil]),d⟩)⟩
   |ok l b=>
    rw[j]at h a;cases h;exact⟨⟨by simp[Bc],fun c n z ty e=>by grind [D3]⟩,fun w g=>(a w (i w g)).mono (by rintro e w' ⟨v,rfl,o,d⟩;exact⟨v,rfl,(fun c n z ty e=>by grind),d⟩)⟩
  grind
 grind⟩
def xE(o:Option Nat):Int:=match o with
 |some i=>(i:Int)
 |none=>-1
theorem QQ(c):∀s:ba,Lib.indexByte s c=xE (Cc c s)
 |[]=>rfl
 |x::l=>by
  have h:=QQ c l;unfold Lib.indexByte Cc;by_cases a:x=c
  ·grind [xE]
  ·have b:(x==c)=false:=by simpa using a
   rw[b,h,if_neg a];cases Cc c l<;>grind [xE]
def aw:List Value->Option ue
 |[.string s,.string p]=>if s.size<=1000000000 then some (vh [.string ⟨(Lib.trimSuffix s.data.toList p.data.toList).toArray⟩,.bool (Lib.hasSuffix s.data.toList p.data.toList)])else none
 |_=>none
def zex{Γ:lf}:bi Tryz.prog Γ 84 aw:=qk ca fun vs R h=>by
 unfold aw at h;split at h
 ·split at h
  ·rename_i hs
   cases h;exact⟨_,rfl,by simp[Bc],fun w _=>(Tryz.strings_CutSuffix _ _ w aa).mono (by rintro e w' ⟨rfl,rfl⟩;exact⟨rfl,gu⟩)⟩
  ·cases h
 ·cases h
def bw:List Value->Option ue
 |[.string s]=>if s.size<=1000000 then some (match qf s.data.toList with
  |some t=>vh [.string (S t),.int .i64 0]
  |none=>vh [.string (S []),.int .i64 7])else none
 |_=>none
def zez{Γ:lf}:bi Tryz.prog Γ 91 bw:=qk ca fun vs R h=>by
 unfold bw at h;split at h
 ·rename_i s
  split at h
  ·rename_i hs
   have a:=fun w=>BO s w aa
   cases c:qf s.data.toList<;>
    (rw[c]at h a
     cases h;exact⟨_,rfl,by simp[Bc],fun w _=>(a w).mono (by rintro e w' ⟨rfl,b⟩;exact⟨rfl,b⟩)⟩)
  ·cases h
 ·cases h
def kw:List Value->Option ue
 |[.string s,.string t]=>if t.data.toList=[32,9]then some (vh [.string (S (s.data.toList.dropWhile nc))])else none
 |_=>none
def zeJ:bi Tryz.prog Γ 269 kw:=qk ca fun vs R h=>by
 unfold kw at h;split at h
 ·rename_i s t
  split at h
  ·rename_i ht
   cases h;have a:t=⟨#[32,9]⟩:=by rw[<-yl t,ht];rfl
   subst a;refine⟨_,rfl,by simp[Bc],fun w _=>?_⟩;have h:=Any.strings_TrimLeft_laid Tryz.J8 ca s ⟨#[32,9]⟩ w ha (ascii_of_all ha);rw[show(ByteArray.mk #[32,9]).data.toList=[32,9]from rfl,zfb]at h;exact h.mono (by rintro e w' ⟨rfl,b⟩;exact⟨rfl,b⟩)
  ·cases h
 ·cases h
end Go.Proofs.YtglaihdcndcmkaaGreatDoor
namespace ya
def e8{a b}(h:Oe a=Oe b):a=b:=by
 obtain⟨d,e,a3,a4⟩:=a;obtain⟨g,i,j,k⟩:=b;simp only[Oe,Dr,PV.flat.injEq,Value.string.injEq,Value.int.injEq,true_and,and_true,cx,Er]at h;obtain⟨c,rfl,rfl,rfl⟩:=h;rw[Xb.1 c]
theorem kR:∀{l l'},mb l=mb l'->l=l'
 |[],[],_=>rfl
 |[],b::l',h=>by have:=congrArg List.length h;rw[Vj,Vj]at this;simp at this
 |a::l,[],h=>by have:=congrArg List.length h;rw[Vj,Vj]at this;simp at this
 |a::l,b::l',h=>by
  have c:=h;obtain⟨d,e⟩:=List.append_inj c rfl;rw[e8 d,kR e]
def Tu(args:List PV)(d:Nat):Prop:=∃L:List Qa,L.length<=100000/\args=[.ia L.length (mb L)]/\Xh L ([],0,0)=some ([],d,5)
def zcG{args}{d a}(h:Tu args d)(k:Tu args a):d=a:=by
 obtain⟨L,_,rfl,e⟩:=h;obtain⟨M,_,b,c⟩:=k;simp only[Dr,PV.ia.injEq,and_true]at b;rw[<-kR b.2,e]at c;simpa using c
open Classical in
noncomputable def Vv:Callee:=fun f args bx oc=>if h:f=282/\bx=[]/\oc=[]/\∃d,Tu args d then some ([.flat (.int .i64 (choose h.2.2.2:Nat))],false,[],[])else none
def zcD:fq Vv:=fun l d a hs=>by
 have k:Tu [.ia l.length (mb l)] d:=⟨l,a,rfl,hs⟩;unfold Vv;rw[dif_pos ⟨rfl,rfl,rfl,d,k⟩];rw[zcG (Pt (⟨d,k⟩:∃d,Tu [.ia l.length (mb l)] d)) k]
def zcE{Γ}:xc Tryz.prog Γ Vv:=by
 intro f args bx oc S os bx' oc' i;unfold Vv at i;split at i
 case isFalse=>cases i
 rename_i h;cases i;have O:=Pt h.2.2.2;generalize Classical.choose h.2.2.2=d at*;obtain⟨rfl,rfl,rfl,_⟩:=h;obtain⟨L,b,rfl,hs⟩:=O;intro w Fr β vs G;refine enters_of ca ha ?_;have C:=G.args;simp only[ta]at C;obtain⟨v,r,rfl,H,rfl⟩:=C;simp only[Rd]at H;obtain⟨a,n,rfl,D,c⟩:=H;have M:kJ w a L:=by
  rcases c with⟨T,J⟩|⟨g,o,us,rfl,A,B,U⟩
  ·exact .inl (qz J)
  ·by_cases F:L=[]
   ·exact .inl F
   ·refine .inr ⟨g,o,rfl,?_,fun k t ht=>?_⟩
    ·obtain⟨t,j,rfl⟩:=List.exists_cons_of_ne_nil F
     obtain⟨v0,q,_⟩:=B.get 0 _ ra;exact Et w _ (A 0 v0 q).2
    ·have l:∀j p,(Oe t)[j]?=some p->∃v,w.cell? ⟨g,o+k* 4+j,none⟩=some v/\Rd w Fr β p v:=fun j p E=>by
      have P:=Fl ht;have:(mb L)[k* 4+j]?=some p:=by
       rw[<-kg,P,ql (qg E).1,E]
      obtain⟨v,q,K⟩:=B.get _ _ this;exact⟨v,by rw[tk];exact(A _ v q).2,K⟩
     obtain⟨v0,I,u⟩:=l 0 _ rfl;obtain⟨V,c1,x⟩:=l 1 _ rfl;obtain⟨W,c2,y⟩:=l 2 _ rfl;obtain⟨v3,c3,z⟩:=l 3 _ rfl;simp only[Rd]at u x y z;obtain⟨rfl,_⟩:=u;obtain⟨rfl,_⟩:=x;obtain⟨rfl,_⟩:=y;obtain⟨rfl,_⟩:=z;exact⟨I,c1,c2,c3⟩
 refine(zcF L a n w M b d hs).mono ?_;rintro e w' ⟨rfl,N⟩;obtain⟨R,Q⟩:=G.rel.grow N (Fr':=Fr) fun _ _=>rfl
 exact⟨_,Fr,β,rfl,by simp[ed,Rd,Bc],R,Q,(fun L h=>by cases h),fun h=>by cases h⟩
end ya
namespace Go.Proofs.YtglaihdcndcmkaaGreatDoor
def dw:List Value->Option ue
 |[.string t,.int .i64 k]=>match tf (t.data.toList.drop k.toNat)with
  |some v=>if t.size<=100000/\t.data.toList[k.toNat]?=some 92/\v.2<=6/\0<=k then some (vh [.int .i32 (v.1:Nat),.int .i64 (v.2:Nat),.bool true])else none
  |none=>none
 |_=>none
def zeB{Γ:lf}{lib:ya.Callee}(b:xc Tryz.prog Γ (da code lib))(a:sc lib):bi Tryz.prog Γ 285 dw:=qk ca fun vs R h=>by
 unfold dw at h;split at h
 ·rename_i t k
  split at h
  ·rename_i v i
   split at h
   ·rename_i d
    obtain⟨c1,c2,c3,c4⟩:=d;cases h;have g:((k.toNat:Nat):Int)=k:=aa
    exact⟨_,rfl,by simp[Bc],fun w j=>by
     have h:=l2 b a t.data.toList t (yl t) k.toNat v c1 c2 i c3 w j;rw[g]at h;exact h.mono (by rintro e w' ⟨rfl,c⟩;exact⟨rfl,c⟩)⟩
   ·cases h
  ·cases h
 ·cases h
def Q2:zo Tryz.prog Ak 177 (Aj Na):=⟨ca,fun vs v h=>by
 unfold Aj at h;split at h
 ·split at h
  ·rename_i hs
   cases h;refine⟨rfl,fun w b=>(X1 _ w hs).mono ?_⟩;rintro e w' ⟨rfl,a⟩;exact⟨by rw[T1 _ _ (Aa _)];rfl,a⟩
  ·cases h
 ·cases h⟩
def R2:zo Tryz.prog Ak 67 (Aj (eb 0)):=⟨ca,fun vs v h=>by
 unfold Aj at h;split at h
 ·split at h
  ·rename_i hs
   cases h;exact⟨rfl,fun w b=>(V1 _ w hs).mono (by rintro e w' ⟨rfl,a⟩;exact⟨rfl,a⟩)⟩
  ·cases h
 ·cases h⟩
noncomputable def lw:List (FuncId×ya.Callee):=[(96,Hh 96 DA),(80,Hh 80 yI),(79,Hh 79 ew),(140,Hh 140 Yv),(90,Hh 90 xI),(143,Hh 143 cw),(39,Hh 39 Zv),(146,Hh 146 gw),(42,Hh 42 iw),(75,Hh 75 jw),(269,Hh 269 kw),(84,Hh 84 aw),(91,Hh 91 bw)]
noncomputable def vz:ya.Callee:=vt lw
def cV:∀p∈lw,xc Tryz.prog Ak p.2:=fun p b=>by
 have a:∀w,Ak.G w->zf w:=fun w h=>h.1
 simp only[lw,wb,Nt,or_false]at b;rcases b with rfl|rfl|rfl|rfl|rfl|rfl|rfl|rfl|rfl|rfl|rfl|rfl|rfl
 ·exact Dj ha zeD
 ·exact Dj ha zeF
 ·exact Dj ha zeC
 ·exact Dj ha zev
 ·exact Dj ha zew
 ·exact Dj ha zeA
 ·exact Dj ha (zey a)
 ·exact Dj ha (zeE a)
 ·exact Dj ha (zeG a)
 ·exact Dj ha (zeH a)
 ·exact Dj ha zeJ
 ·exact Dj ha zex
 ·exact Dj ha zez
def zR:xc Tryz.prog Ak vz:=eV cV
def lA{f}{c}{args}{bx}{oc}{r}(h:lw.lookup f=some c)(k:c f args bx oc=some r):vz f args bx oc=some r:=by
 unfold vz;rw[dV h];exact k
def cr:Ut vz where
 idx s c hs:=lA rfl (by
  have h:=nl (k:=96) (spec:=DA) (args:=[.flat (.string (S s)),.flat (.int .u8 (c.toNat:Nat))]) rfl rfl;rw[h,Yg,KX,QQ];rfl)
 wV s:=lA rfl (by
  have h:=nl (k:=269) (spec:=kw) (args:=[.flat (.string (S s)),.flat (.string (S [32,9]))]) rfl (by unfold kw;dsimp only;rw[if_pos (Yg (s:=[32,9])),Yg]);rw[h];rfl)
 alike s t hs ht:=lA rfl (by
  have h:=nl (k:=140) (spec:=Yv) (args:=[.flat (.string (S s)),.flat (.string (S t))]) rfl (by unfold Yv;dsimp only;rw[Xa,Xa,if_pos ⟨hs,ht⟩,Yg,Yg]);rw[h];rfl)
 fold s hs:=lA rfl (by
  have h:=nl (k:=79) (spec:=ew) (args:=[.flat (.string (S s))]) rfl (by unfold ew;dsimp only;rw[Xa,if_pos hs,Yg]);rw[h];rfl)
 cut s w hs:=lA rfl (by
  have h:=nl (k:=39) (spec:=Zv) (args:=[.flat (.string (S s)),.flat (.string (S w))]) rfl (by unfold Zv;dsimp only;rw[Xa,if_pos hs,Yg,Yg]);rw[h];rfl)
 pre s p hs hp:=ra
 dq s hs:=lA rfl (by
  have h:=nl (k:=143) (spec:=cw) (args:=[.flat (.string (S s))]) rfl (by unfold cw;dsimp only;rw[Xa,if_pos hs,Yg]);rw[h];cases Ie s<;>rfl)
 Yo s w hs:=ra
 ind s w hs:=lA rfl (by
  have h:=nl (k:=146) (spec:=gw) (args:=[.flat (.string (S s)),.flat (.string (S w))]) rfl (by unfold gw;dsimp only;rw[Xa,if_pos hs,Yg,Yg]);rw[h];rfl)
 mI s hs:=lA rfl (by
  have h:=nl (k:=75) (spec:=jw) (args:=[.flat (.string (S s))]) rfl (by unfold jw;dsimp only;rw[Xa,if_pos hs,Yg])
  grind [ue.mi,uP])
noncomputable def zI(pl:ya.Callee):List (FuncId×ya.Callee):=[(19,pl),(93,Lo),(46,Lo),(162,yv),(282,Vv),(285,Hh 285 dw),(157,Mk (sj 157 uA)),(158,Mk (sj 158 sA)),(232,Mk (sj 232 (Aj Na))),(99,Mk (sj 99 (Aj (eb 0)))),(177,Mk (sj 177 (Aj Na))),(67,Mk (sj 67 (Aj (eb 0))))]++lw
noncomputable def br(pl:ya.Callee):ya.Callee:=vt (zI pl)
variable {pl:ya.Callee}
def W8(b:xc Tryz.prog Ak pl):xc Tryz.prog Ak (br pl):=eV fun p a=>by
 rcases Ue.1 a with a|a
 ·simp only[wb,Nt,or_false]at a
  rcases a with rfl|rfl|rfl|rfl|rfl|rfl|rfl|rfl|rfl|rfl|rfl|rfl
  ·exact b
  ·exact gK
  ·exact gK
  ·exact O9
  ·exact zcE
  ·exact Dj ha (zeB (RD Tryz.checked.mixed ca dy zR) cr.pre)
  ·exact Xs ha O2
  ·exact Xs ha N2
  ·exact Xs ha M2
  ·exact Xs ha P2
  ·exact Xs ha Q2
  ·exact Xs ha R2
 ·exact cV p a
def Sk{f:FuncId}{c:ya.Callee}{args:List PV}{bx:Oa}{oc:List ya.Loc}{r:ya.Fe}(h:(zI pl).lookup f=some c)(k:c f args bx oc=some r):br pl f args bx oc=some r:=by
 unfold br;rw[dV h];exact k
def n8:Sb (br pl):=fun f args bx oc r h=>by
 have hf:f=93\/f=46:=by
  unfold Lo at h;split at h
  ·grind
  ·grind
 rcases hf with rfl|rfl
 ·exact Sk rfl h
 ·exact Sk rfl h
def wy{f:FuncId}{e:ba->ba}(h:(zI pl).lookup f=some (Mk (sj f (Aj e))))(s:ba)(hs:s.length<=1000000):br pl f [.flat (.string (S s))] [] []=some ([.flat (.string (S (e s)))],false,[],[]):=Sk h (BH rfl (by grind [Aj,Xa,pJ]))
def V8(a:Zt pl):cq (br pl) where
 b64 s hs:=⟨by grind [FD],wy rfl s aa⟩
 qp s hs:=⟨by grind [ms],wy rfl s aa⟩
 NH s hs:=⟨by grind [FD],wy rfl s aa⟩
 rq s hs:=wy rfl s aa
 idx s c hs:=cr.idx s c hs
 last s c hs:=Sk rfl (BH rfl (by unfold uA;dsimp only;rw[if_pos (by grind [Xa]),o8];rfl))
 dO s hs:=Sk rfl (BH rfl (by grind [sA,Xa,pJ,OU]))
 pre s p hs a:=cr.pre s p hs a
 bld:=n8
 nest L hL:=Sk rfl (N9 L hL)
 parse m hm:=Sk rfl (a m hm)
 cut s w hs:=cr.cut s w hs
 Yo s w hs:=cr.Yo s w hs
 rep s o n hs ho hn:=Sk rfl (by
  have h:=nl (k:=42) (spec:=iw) (args:=[.flat (.string (S s)),.flat (.string (S o)),.flat (.string (S n))]) rfl (by unfold iw;dsimp only;rw[Xa,Xa,Xa,if_pos ⟨hs,ho,hn⟩,Yg,Yg,Yg]);rw[h];rfl)
 hy s w hs:=Sk rfl (by
  have h:=nl (k:=84) (spec:=aw) (args:=[.flat (.string (S s)),.flat (.string (S w))]) rfl (by unfold aw;dsimp only;rw[Xa,if_pos hs,Yg,Yg]);rw[h];rfl)
 dec s hs:=Sk rfl (by
  have h:=nl (k:=91) (spec:=bw) (args:=[.flat (.string (S s))]) rfl (by unfold bw;dsimp only;rw[Xa,if_pos hs,Yg]);rw[h];cases qf s<;>rfl)
 shape l d hl hs:=Sk rfl (zcD l d hl hs)
 ind s w hs:=cr.ind s w hs
 ID s k v hs hc hv h6:=Sk rfl (by
  have h:=nl (k:=285) (spec:=dw) (args:=[.flat (.string (S s)),.flat (.int .i64 (k:Nat))]) rfl (by unfold dw;dsimp only;rw[Yg,ic,hv];dsimp only;rw[Xa,if_pos ⟨hs,hc,h6,aa⟩]);rw[h];rfl)
def t_(a:xc Tryz.prog Ak pl):xc Tryz.prog Ak (da code (br pl)):=RD Tryz.checked.mixed ca dy (W8 a)
end Go.Proofs.YtglaihdcndcmkaaGreatDoor
namespace ya
variable {H:Type} {enc:TypeId × Value→H}
def zce{a}{C}{os}{f}{fn}{s}{g}{b fresh d k}{X:World->Array Value->Prop}
 (H:∀(w w')(args),w.heap=w'.heap->X w args->X w' args)
 (own:ownKnob C.prog.godebug=none) (l:os.Started) (p:C.prog.inits.idxOf? f=none) (z:C.prog.funcs[f]?=some fn)
 (n:∃(w:World)(tape:Tape)(i:Input),w.os=os/\(w.forCall tape i).Shaped C.prog/\i.vars=[]/\Input.okWide C.prog (w.forCall tape i) .any w.heap.size f i/\
   ((s.pre enc C.prog fn g b (w.forCall tape i).memory i.args/\X (w.forCall tape i).memory i.args)/\sizedMet enc C.prog fn (OpenSpec.ofChange s) b (w.forCall tape i).memory i.args)/\a.holds C.prog (lone (Frame.enter C.prog f i.args .normal) [] (w.forCall tape i)))
 (h:∀(W)(base)(args)(q r)(c),
   (∀(j:Nat) t v,fn.params[j]?=some t->args[j]?=some v->Value.okWide C.prog W .any base t v)->
   DataW.Whole enc C.prog fn.params.toList s.vars b W args.toList q r c->
   g.all (PathCond.test C.prog ⟨fn.params.toList,q,s.plain.varTypes C.prog,r⟩)=true->
   (DataW.weightsEach C.prog (fn.params.toList++s.plain.varTypes C.prog) (q++r)).all (·<=reachBytes)=true->X W args->
   W.ShapedOpen C.prog->
   a.holds C.prog (lone (Frame.enter C.prog f args .normal) [] W)->
   Calls C.prog f args W fun e E=>∃v,e=.returned v/\s.post enc C.prog fn b fresh d k W args v E):
 ReturnsInHanded a C os f .any (fun w args=>(s.pre enc C.prog fn g b w args/\X w args)/\sizedMet enc C.prog fn (OpenSpec.ofChange s) b w args) (s.post enc C.prog fn b fresh d k):=by
 refine returnsInHanded_of_calls own l p n ?_;intro w tape i _ B _ A x o;obtain⟨_,_,_,G,u,_,_,_,_,y⟩:=A;have e:=jf (u.symm.trans z);subst e;obtain⟨⟨⟨q,r,c,F,I⟩,L⟩,M⟩:=x;have D:=DataW.Whole.of_heap (w':=w.forCall tape i) ra F;refine(h (w.forCall tape i) w.heap.size i.args q r c y D I (M.weights F) (H _ _ _ ra L) B o).mono fun e E ⟨v,J,K⟩=>?_
 subst J;exact ChangeSpec.post_blind K
def fY{H}{enc:TypeId×Value->H}{P}{w}{base}{r}{held}{fuel}{t e}{n}{cs}{zs:List (List UInt8)}{p}
 (ht:P.underlying t=some (.array n e)) (o:P.underlying e=some .string) (hce:P.cellsOf e=1)
 (h:DataW.trod enc P w base r held fuel t cs=some (.agg (zs.map fun z=>.lit (.string z)),p)) (i:Nat) (z) (l:zs[i]?=some z):cs[i]?=some (.string ⟨z.toArray⟩):=by
 obtain⟨xs,m,rfl,d,u,v,c⟩:=DataW.trod_array ht h;simp only[Prod.mk.injEq,DataW.agg.injEq]at d;have q:i<n:=by
  have g:zs.length=xs.length:=by simpa using congrArg List.length d.1
  have b:=(qg l).1;omega
 have a:=c i q;rw[hce,Nat.mul_one]at a;obtain⟨y,k⟩:∃y,xs[i]?=some y:=⟨_,qe aa⟩;rw[k]at a;obtain⟨s,g,rfl,_⟩:=DataW.trod_string o a;have b:(xs.map (·.1))[i]?=some (.lit (.string s.data.toList)):=by simp[k]
 rw[<-d.1]at b;simp[l]at b;have j:=congrArg (·[0]?) g;simp[kg]at j;rw[j,b]
end ya
namespace Go.Proofs.YtglaihdcndcmkaaGreatDoor
open Go.ChangeShapes Go.WideShapes Go.ChangeAt
def l4:Tryz.prog.globalNamed "nuncio/b64.table"=some 3:=ca
def zeI:(Tryz.prog.globals[3]?).map (·.type)=some 332:=ca
def zX:Tryz.prog.cellsOf 9=1:=ca
open Go.ChangeShapes Go.WideShapes Go.ChangeAt
abbrev lB:List (String×DataW Unit):=[("unicode/utf8.acceptRanges",Rows.laid_unicode_utf8_acceptRanges),("nuncio/b64.table",Rows.laid_nuncio_b64_table),("unicode/utf8.first",Rows.laid_unicode_utf8_first)]
noncomputable def pR(os:Os):World:=
 let w0:=World.doorLaid Tryz.prog 400 os
 {w0 with heap:=w0.heap.modify 1 fun
  | .cells _ t frozen=>.cells (Lib.firstTab.map fun z=>Value.int .u8 z).toArray t frozen
  |o=>o}
def q1(os)(args):laidMetH Tryz.prog lB ((pR os).forCall (fun _ _=>0) ⟨#[],args,[]⟩).memory:=
 laidMetH_of_parts3 (fuel:=8) (laidMet_of_run' 8 ca ca) ca ca
def zeN{W}(h:laidMetH Tryz.prog lB W):om W:=by
 rw[MakeChecks.laidMetH_plain _ _ _ ca]at h;obtain⟨ps,⟨_,_,_,_,_,_,_,_,_,_,⟨l,t0,e,k,n,o,a,c,d,b,_,_⟩,_⟩,_,_⟩:=h;obtain rfl:=jf (l4.symm.trans a);obtain rfl:=jf (zeI.symm.trans c);intro i j;have hr:([nk 0,nk 1,nk 2,nk 3]:List (List UInt8))[i]?=some (nk i):=by
  match i,j with
  |0,_=>rfl
  |1,_=>rfl
  |2,_=>rfl
  |3,_=>rfl
 have:=fY (zs:=[nk 0,nk 1,nk 2,nk 3]) Tryz.underlying332 Tryz.underlying9 zX b i _ hr;have g:=World.var?_cell a d i;rw[g];simpa using this
end Go.Proofs.YtglaihdcndcmkaaGreatDoor
namespace ya
set_option synthInstance.maxSize 4000
set_option maxRecDepth 100000
def S2{W:World}(a:laidMetH Tryz.prog lB W)(h:W.ShapedOpen Tryz.prog):kB W:=
 ⟨Go.Proofs.cell_of_shapedOpen_int (zero:=#[.int .i64 0]) (t:=3) h (of_decide_eq_true ca) ca rfl ca ca Tryz.underlying3,zeN a⟩
def Mp{n:Nat}{ps:List PV}(h:fit Tryz.prog n 9 ps):∃s:ba,ps=[.flat (.string (S s))]/\s.length<=9223372036854775807:=by
 cases n with
 |zero=>cases h
 |succ n=>
  simp only[fit,Tryz.underlying9]at h;obtain⟨s,rfl,hs⟩:=h;refine⟨s.data.toList,rfl,?_⟩;have:s.data.toList.length=s.size:=rfl;rw[this];unfold maxLen at hs;omega
def y3{n:Nat}{ps:List PV}(h:fit Tryz.prog n 23 ps):∃m:kc,ps=Lb m/\m.fr.length<=9223372036854775807/\m.to.length<=9223372036854775807/\m.su.length<=9223372036854775807/\m.te.length<=9223372036854775807/\m.ht.length<=9223372036854775807:=by
 cases n with
 |zero=>cases h
 |succ n=>
  simp only[fit,Tryz.underlying23]at h;obtain⟨i,rfl,q,g⟩:=h;obtain⟨a,b,c,d,e,rfl⟩:∃a b c d e,i=[a,b,c,d,e]:=by
   match i,q with
   |[a,b,c,d,e],_=>exact⟨a,b,c,d,e,rfl⟩
  obtain⟨r,rfl,j⟩:=Mp (g 0 _ a rfl rfl);obtain⟨s1,rfl,k⟩:=Mp (g 1 _ b rfl rfl);obtain⟨t,rfl,l⟩:=Mp (g 2 _ c rfl rfl);obtain⟨u,rfl,o⟩:=Mp (g 3 _ d rfl rfl);obtain⟨v,rfl,p⟩:=Mp (g 4 _ e rfl rfl);exact⟨⟨r,s1,t,u,v⟩,rfl,j,k,l,o,p⟩
def YD{n:Nat}{p:PV}(h:Dl Tryz.prog n 9 p):∃s:ba,p=.flat (.string (S s))/\s.length<=9223372036854775807:=by
 simp only[Dl,Tryz.underlying9]at h;obtain⟨s,a,b⟩:=Mp h;exact⟨s,by simpa using a,b⟩
def w3{n:Nat}{p:PV}(h:Dl Tryz.prog n 23 p):∃m:kc,p=.agg (Lb m)/\m.fr.length<=9223372036854775807/\m.to.length<=9223372036854775807/\m.su.length<=9223372036854775807/\m.te.length<=9223372036854775807/\m.ht.length<=9223372036854775807:=by
 simp only[Dl,Tryz.underlying23]at h;obtain⟨ps,rfl,h⟩:=h;obtain⟨m,rfl,a⟩:=y3 h;exact⟨m,rfl,a⟩
def lX{n:Nat}{ps:List PV}(h:fit Tryz.prog n 4 ps):∃b:Bool,ps=[.flat (.bool b)]:=by
 cases n with
 |zero=>cases h
 |succ n=>
  simp only[fit,Tryz.underlying4]at h;obtain⟨b,rfl⟩:=h;exact⟨b,rfl⟩
def x3{n:Nat}{ps:List PV}(h:fit Tryz.prog n 40 ps):∃(f:Bool)(rc bd:ba),ps=Ub f rc bd/\rc.length<=9223372036854775807/\bd.length<=9223372036854775807:=by
 cases n with
 |zero=>cases h
 |succ n=>
  simp only[fit,Tryz.underlying40]at h;obtain⟨d,rfl,j,e⟩:=h;obtain⟨a,b,c,rfl⟩:∃a b c,d=[a,b,c]:=by
   match d,j with
   |[a,b,c],_=>exact⟨a,b,c,rfl⟩
  obtain⟨f,rfl⟩:=lX (e 0 _ a rfl rfl);obtain⟨s1,rfl,g⟩:=Mp (e 1 _ b rfl rfl);obtain⟨k,rfl,i⟩:=Mp (e 2 _ c rfl rfl);exact⟨f,s1,k,rfl,g,i⟩
def u3{n:Nat}{p:PV}(h:Dl Tryz.prog n 40 p):∃(f:Bool)(rc bd:ba),p=.agg (Ub f rc bd)/\rc.length<=9223372036854775807/\bd.length<=9223372036854775807:=by
 simp only[Dl,Tryz.underlying40]at h;obtain⟨ps,rfl,h⟩:=h;obtain⟨f,rc,bd,rfl,a⟩:=x3 h;exact⟨f,rc,bd,rfl,a⟩
open Classical in
noncomputable def XS(f:FuncId)(args:List PV)(r:Fe):Callee:=fun f' a b o=>if f'=f/\a=args/\b=[]/\o=[]then some r else none
def E_{P:Program}{Γ:lf}{f args}{r:Fe}(h:∀w Fr β vs,nm P Γ w Fr β args vs [] []->Enters P f vs w fun e w'=>∃v Fr' β',e=.returned v/\ui P w Fr β [] r.1 r.2.1 r.2.2.1 r.2.2.2 v w' Fr' β'):xc P Γ (XS f args r):=fun f' a b o g os bx' oc' c=>by
 unfold XS at c;split at c
 case isFalse=>cases c
 rename_i d;obtain⟨rfl,rfl,rfl,rfl⟩:=d;cases c;exact h
def zfz(W:World)(t:kB W)(mi:List PV)(vs:List Value)(hr:ta W (wl W) [] mi vs)(hf:fits Tryz.prog Tryz.f6.params.toList mi):Calls Tryz.prog 6 vs.toArray W (Xg (.bool true) W):=by
 rw[Tryz.params6]at hf
 match mi,hf with
 |[p,q,a,b,c],⟨⟨_,j⟩,⟨_,k⟩,⟨_,l⟩,⟨_,n⟩,⟨_,o⟩,_⟩=>
  obtain⟨m,rfl,e,g,a3,a4,a5⟩:=w3 j;obtain⟨f,rc,bd,rfl,h,i⟩:=u3 k;obtain⟨su,rfl,c1⟩:=YD l;obtain⟨te,rfl,c2⟩:=YD n;obtain⟨r2,rfl,c3⟩:=YD o;obtain⟨lv,d⟩:=dy _ _ BZ;have u:=q8 (V8 (zaz cr)) m f rc bd su te r2 e g a3 a4 a5 h i c1 c2 c3;have r:=G3 Tryz.checked.mixed (t_ (zaA zR)) ha d (by exact qa rfl) u;exact ZX (E_ r) ha (if_pos ⟨rfl,rfl,rfl,rfl⟩) t hr
end ya

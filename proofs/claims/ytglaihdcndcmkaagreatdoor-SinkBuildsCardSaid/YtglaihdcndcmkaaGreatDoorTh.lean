/- Texts of this proof, merged. -/
import Derived.Test.YtglaihdcndcmkaaGreatDoorTg
import Derived.KernelRfl
import Derived.Test.YtglaihdcndcmkaaGreatDoorRows
import Derived.WalkKit
import Derived.BigQuiet
import Derived.Lib.OthersKept
import Derived.Lib.Index
import Derived.Lib.IndexMore
import Derived.Lib.Strings
import Derived.RegionTactic
import Derived.ChangeAlike
import Derived.Lib.SplitLaws
import Derived.LaidMore
import Derived.ProofKit
import Derived.OpenShut
import Derived.Stop.Joined
import Derived.Handed
import Derived.HandedShaped
import Derived.Lib.LaidU8
import Derived.Shelf.Vars
import Derived.Test.YtglaihdcndcmkaaGreatDoorTie
import Derived.Test.YtglaihdcndcmkaaGreatDoorCards
import Derived.SevenTiedAt
set_option linter.all false
open Go ya Go.Proofs Go.RowKit Go.Proofs.YtglaihdcndcmkaaGreatDoor
set_option maxHeartbeats 4000000
namespace ya
theorem HE(enc:ba->ba):∀(l R:List Nat),(∀r∈l,Sb r=true)->∃g a,Kg enc (canon R) l=(g::a).map (fun G=>Gc enc (canon G))/\(g::a).flatten=R++l
 |[],R,_=>⟨R,[],rfl,ea⟩
 |r::l,R,h=>by
  have hr:=h r ea;have e:Ka r=canon [r]:=by simp[canon]
  rw[Kg,e];split
  ·obtain⟨g,a,b,c⟩:=HE enc l [r] fun x d=>h x (by simp[d])
   exact⟨R,g::a,by rw[b];rfl,by rw[List.flatten_cons,c];rfl⟩
  ·obtain⟨g,a,b,c⟩:=HE enc l (R++[r]) fun x d=>h x (by simp[d])
   rw[py]at b;exact⟨g,a,b,by rw[c];simp⟩
def s2{g:ba}(h:Vh g=true):rf (Gc Ra g)=(g,true):=by
 have a:Md.isPrefixOf (Gc Ra g)=true:=by
  rw[zk];unfold Gc;rw[Ac];exact rx _ _
 have b:(Gc Ra g).drop 10=Ra g++[63,61]:=by unfold Gc;rw[Ac];exact List.drop_left' rfl
 have c:([63,61]:ba).isSuffixOf (Ra g++[63,61])=true:=by rw[xB];exact List.suffix_append _ _
 have d:(Ra g++[63,61]).take ((Ra g++[63,61]).length - 2)=Ra g:=List.take_left' ea;unfold rf;rw[a,b,c,d,j2 _ g (Aa _)];simp[h]
def BP{w:ba}(h:([61,63]:ba).isPrefixOf w=false):rf w=(w,false):=by
 have:Md.isPrefixOf w=false:=by
  rw[Do]at h⊢;exact fun k=>h (zk.2 (List.IsPrefix.trans ⟨[85,84,70,45,56,63,66,63],rfl⟩ (zk.1 k)))
 unfold rf;rw[this];rfl
theorem RD(c:UInt8):∀(l p:ba)(ps:List ba),db c l=p::ps->l=p++ps.flatMap (c::·)/\∀x∈p::ps,c∉x
 |[],p,ps,h=>by cases h;simp
 |a::l,p,ps,h=>by
  obtain⟨n,i,e⟩:=Dy c l;obtain⟨j,d⟩:=RD c l n i e;unfold db at h;rw[e]at h;split at h
  ·rename_i g
   cases h;refine⟨by rw[g,j];simp,fun x b=>?_⟩;rcases wb.1 b with rfl|b
   ·simp
   ·exact d x b
  ·rename_i g
   dsimp only at h;cases h;refine⟨by rw[j];simp,fun x b=>?_⟩;rcases wb.1 b with rfl|b
   ·have:=d n ea
    simp only[wb,not_or];exact⟨fun k=>g k.symm,this⟩
   ·exact d x (by simp[b])
theorem aR(s:ba):∀(l p:ba)(ps:List ba)(k long n:Nat),s.drop k=l->Jg s k long l=some n->db 32 l=p::ps->((0<n->0<long+p.length)/\([61,63]:ba).isPrefixOf p=false)/\∀w∈ps,(0<n->w≠[])/\([61,63]:ba).isPrefixOf w=false
 |[],p,ps,k,long,n,g,h,b=>by
  cases b;rw[Jg]at h;cases h;exact⟨⟨fun h=>by simpa using h,rfl⟩,ea⟩
 |c::t,p,ps,k,long,n,g,h,b=>by
  rw[Jg]at h;split at h
  ·cases h
  rename_i hs;simp only[mq,decide_eq_true_eq,not_or,mn,cc,not_and]at hs;obtain⟨⟨z,_,_,o⟩,_⟩:=hs;have q:s.drop (k+1)=t:=by rw[<-Cd,g];rfl
  have A:k<=s.length:=by
   rcases Oh s.length k with h|h
   ·rw[Jj aa]at g;cases g
   ·exact h
  have u:([61,63]:ba).isPrefixOf (c::t)=false:=by
   rw[<-g];unfold Ub at o;rw[decide_eq_true A,pd]at o;exact Do.2 o
  obtain⟨x,r,e⟩:=Dy 32 t;obtain⟨⟨i,B⟩,v⟩:=aR s t x r (k+1) _ n q h e;unfold Eh at i;unfold db at b;rw[e]at b;split at b
  ·rename_i d
   cases b;have a:c.toNat=32:=by rw[d];rfl
   rw[if_pos a]at i;refine⟨⟨fun _=>?_,rfl⟩,fun w hw=>?_⟩
   ·have:=z a;simp only[Ca];omega
   ·rcases wb.1 hw with rfl|hw
    ·exact⟨fun j y=>by have:=i j;rw[y]at this;simp at this,B⟩
    ·exact v w hw
  ·rename_i d
   dsimp only at b;cases b;have a:c.toNat≠32:=fun k=>d (Yb.1 k)
   rw[if_neg a]at i;refine⟨⟨fun j=>by have:=i j;simp only[sa];omega,?_⟩,v⟩;rw[Do]at u⊢;intro k;rw[zk]at k;apply u;rw[zk];refine k.trans ?_;rw[(RD 32 t x _ e).1];exact⟨_,rfl⟩
def zd0:∀c:UInt8,yg c=true->c≠32->vc c=false:=Hb
def UW{w:ba}(h:w.all yg=true)(b:(32:UInt8)∉w):∀c∈w,vc c=false:=fun c a=>zd0 c (Ag.1 h c a) fun e=>b (e▸a)
def l3:∀l:List UInt8,(32:UInt8)∉Ra l:=by
 have d:∀n,n<64->mc n≠32:=fun n h=>(by decide+kernel:∀n:Fin 64,mc n.1≠32) ⟨n,h⟩
 have e:∀l:List UInt8,(32:UInt8)∉ae l:=fun l h=>by
  unfold ae at h;simp only[wb,ju,or_false]at h;have m:∀x,x % 64<64:=fun x=>Nat.mod_lt _ ha
  rcases h with h|h|h|h
  ·exact d _ (m _) h.symm
  ·exact d _ (m _) h.symm
  ·split at h
   ·exact absurd h ha
   ·exact d _ (m _) h.symm
  ·split at h
   ·exact absurd h ha
   ·exact d _ (m _) h.symm
 intro l
 induction l using Ra.induct with
 |case1=>simp[Ra]
 |case2 a=>exact e _
 |case3 a b=>exact e _
 |case4 a b c l g=>rw[Ra,We,not_or];exact⟨e _,g⟩
def xI(v:ba)(h:Ni v=true\/sd v=v):Aj rf (32::trimB (be (Ed Ra v)))=v:=by
 have a:=vx v;unfold Ed at a⊢;by_cases l:v=[]
 ·rw[if_pos l,l];exact zc5 _
 rw[if_neg l]at a⊢;by_cases c:Ni v=true
 ·rw[if_pos c]at a⊢
  unfold Ni at c;rw[decide_eq_false l,Wg]at c;cases d:Jg v 0 0 v with
  |none=>rw[d]at c;simp at c
  |some n=>
   rw[d]at c;have i:0<n:=by simpa using c
   obtain⟨p,ps,e⟩:=Dy 32 v;obtain⟨⟨o,q⟩,j⟩:=aR v v p ps 0 0 n rfl d e;obtain⟨t,u⟩:=RD 32 v p ps e;rw[e]at a⊢;rw[zc6 rf p ps fun x b=>⟨?_,UW (a x b).2 (u x b),?_⟩]
   ·exact t.symm
   ·rcases wb.1 b with rfl|b
    ·intro k;have:=o i;rw[k]at this;simp at this
    ·exact(j x b).1 i
   ·rcases wb.1 b with rfl|b
    ·exact BP q
    ·exact BP (j x b).2
 ·rw[if_neg c]at a⊢
  have y:=h.resolve_left c;obtain⟨rs,hr,q⟩:=sO v;rw[y]at q;have i:Kd v=rs:=by rw[q];exact AH hr
  rw[i]at a⊢;obtain⟨g,j,t,o⟩:=HE Ra rs [] hr;have u:canon []=[]:=rfl;rw[u]at t;rw[t]at a⊢;have w:∀G∈g::j,∀r∈G,Sb r=true:=fun G d r b=>hr r (by
   rw[Ma]at o;rw[<-o];exact List.mem_flatten.2 ⟨G,d,b⟩)
  have e1:(g::j).map (fun G=>Gc Ra (canon G))=(((Gc Ra (canon g),canon g)::j.map fun G=>(Gc Ra (canon G),canon G)):List (ba×ba)).map (·.1):=by
   simp[List.map_map,Function.comp_def]
  rw[e1,zc4]
  ·rw[q]
   rw[Ma]at o;rw[<-o,List.flatten_cons,py,nO,List.flatMap_map]
  ·intro x b
   obtain⟨G,d,rfl⟩:∃G,G∈g::j/\x=(Gc Ra (canon G),canon G):=by
    rcases wb.1 b with rfl|b
    ·exact⟨g,ea,rfl⟩
    ·obtain⟨G,d,rfl⟩:=zi.1 b;exact⟨G,by simp[d],rfl⟩
   refine⟨by simp[Gc,Md],?_,s2 (Y6 (w G d))⟩;have b:=a (Gc Ra (canon G)) (zi.2 ⟨G,d,rfl⟩);refine UW b.2 ?_;unfold Gc;simp only[We,not_or];exact⟨⟨ha,l3 _⟩,ha⟩
theorem MR{c:UInt8}:∀r:ba,c∉r->Lib.index r [c]=-1
 |[],_=>rfl
 |a::r,h=>by
  simp only[wb,not_or]at h;have b:([c]:ba).isPrefixOf (a::r)=false:=by simp[List.isPrefixOf,h.1]
  unfold Lib.index;rw[b,MR r h.2];rfl
def zdr{c d:UInt8}{r:ba}(h:c∉r):Lib.replaceAll r [c] [d]=r:=by
 have a:=MR r h;unfold Lib.replaceAll Lib.replace;split
 ·rfl
 ·cases Lib.replaceNum r [c] (-1)with
  |zero=>rfl
  |succ k=>unfold Lib.replaceK;rw[a];rfl
def wI(v:ba)(h:∀c∈v,c≠13/\c≠10/\c≠9):ko (Ki v)=([88],Aj rf (32::v),0):=by
 have b:([13,10]:ba).isSuffixOf (Ki v)=true:=by rw[xB];exact List.suffix_append _ _
 have d:(Ki v).take ((Ki v).length - 2)=[88,58,32]++v:=by
  unfold Ki;exact List.take_left' ea
 have e:Wn ([88,58,32]++v)=some ([88,58,32]++v):=p_ _ fun c a=>by
  rcases We.1 a with a|a
  ·simp only[wb,ju,or_false]at a
   rcases a with rfl|rfl|rfl<;>decide
  ·exact⟨(h c a).1,(h c a).2.1⟩
 have g:Lib.cut ([88,58,32]++v) [58]=([88],32::v,true):=by
  rw[PD,show vh 58 ([88,58,32]++v)=some 1 from mD [88] (32::v) ha];rfl
 unfold ko;rw[if_pos b,d,e];dsimp only;rw[g];have i:Hf [88]=true:=Hb
 dsimp only;rw[i,zdr (by
  simp only[wb,not_or];exact⟨ha,fun k=>(h 9 k).2.2 rfl⟩)]
 rfl
def VS{p:UInt8->Bool}{c:UInt8}:∀{l:ba},c∈l.dropWhile p->c∈l:=fun h=>(List.dropWhile_suffix p).subset h
def K_{l:ba}{c:UInt8}(h:c∈trimB l):c∈l:=by
 unfold trimB tk at h;rw[List.mem_reverse]at h;have:=VS h;rw[List.mem_reverse]at this;exact VS this
def tJ(v:ba):∀c∈Sc v,c≠13/\c≠10/\c≠9:=by
 intro c a;have a:=K_ a;have hs:∀c:UInt8,yg c=true->c≠13/\c≠10/\c≠9:=Hb
 apply hs;unfold xf be at a;obtain⟨w,b,a⟩:=List.mem_flatMap.1 a;rcases wb.1 a with rfl|a
 ·decide
 ·exact Ag.1 (vx v w b).2 c a
theorem zfC{s w:ba}:∀(k:Nat)(l:ba),s.drop k=l->k<=s.length->Qg l w=false->Ub s w k=false\/l=[]
 |k,[],_,_,_=>.inr rfl
 |k,c::l,h,a,hs=>by
  rw[Qg,yB]at hs;unfold Ub;rw[h,hs.1,fi];exact .inl rfl
theorem ZQ(s:ba):∀(l:ba)(k:Nat),s.drop k=l->l.all uj=true->Qg l [61,63]=false->k+l.length<=60->Jg s k k l=some (k+l.length)
 |[],k,_,_,_,_=>by rw[Jg];rfl
 |c::l,k,h,a,hs,i=>by
  have g:k<=s.length:=by
   rcases Oh s.length k with b|b
   ·rw[Jj aa]at h;cases h
   ·exact b
  have d:=(zfC k _ h g hs).resolve_right ea;rw[Ck,cc]at a;have e:∀c:UInt8,uj c=true->32<c.toNat/\c.toNat<=126:=Hb
  obtain⟨c1,c2⟩:=e c a.1;rw[Qg,yB]at hs;simp only[sa]at i⊢;have e1:mn s k c k=false:=by
   unfold mn;rw[d,decide_eq_false (by omega:¬c.toNat=32),decide_eq_false (by omega:¬c.toNat<32),decide_eq_false (by omega:¬126<c.toNat)];rfl
  have e2:Eh c k=k+1:=by unfold Eh;rw[if_neg aa]
  rw[Jg,e1,e2,decide_eq_false aa,Bool.or_self,if_neg ha,ZQ s l (k+1) (by rw[<-Cd,h];rfl) a.2 hs.2 aa];congr 1;omega
def fK{s:ba}(h:Ik s=true):Ni s=true:=by
 unfold Ik at h;simp only[cc,nx,yB,decide_eq_false_iff_not]at h;obtain⟨⟨d,e,_,_,a⟩,b,_⟩:=h;have c:=ZQ s s 0 rfl b a aa;unfold Ni;rw[c];have:0<0+s.length:=aa
 simp only[decide_eq_true this,tn]
def rZ{m:tc}(h:Gg m=0):Aj rf (32::Sc m.fr)=m.fr/\Aj rf (32::Sc m.to)=m.to/\Aj rf (32::Sc m.su)=m.su:=by
 unfold Gg at h;split at h
 ·cases h
 ·rename_i a
  rw[Bool.and_eq_false_iff,not_or,sx,sx]at a;split at h
  ·rename_i b
   exact⟨xI _ (.inl (fK a.1)),xI _ (.inl (fK a.2)),xI _ (.inr b.1)⟩
  ·cases h
def zc9{m:tc}(h:Gg m=0):ko (Ki (Sc m.fr))=([88],m.fr,0)/\ko (Ki (Sc m.to))=([88],m.to,0)/\ko (Ki (Sc m.su))=([88],m.su,0):=by
 obtain⟨a,b,c⟩:=rZ h;exact⟨by rw[wI _ (tJ _),a],by rw[wI _ (tJ _),b],by rw[wI _ (tJ _),c]⟩
def Ig:List lf->List PV
 |[]=>[]
 |(a,b)::l=>.flat (.string (S a))::.flat (.string (S b))::Ig l
theorem dr:∀F,Eb (Ig F)=true
 |[]=>rfl
 |(a,b)::l=>by show Eb (.flat (.string (S a))::.flat (.string (S b))::Ig l)=true;simp only[Eb,PV.sj,dr l,pd]
theorem xp{n}:∀F,Ia n (Ig F)=true
 |[]=>rfl
 |(a,b)::l=>by show Ia n (.flat (.string (S a))::.flat (.string (S b))::Ig l)=true;simp only[Ia,PV.low,xp l,pd]
variable {lib:Callee}
def TJ(lib:Callee):Prop:=∀s:ba,s.length<=1000000->lib 79 [.flat (.string (S s))] [] []=some ([.flat (.string (S (ie s)))],false,[],[])
def lX(lib:Callee):Prop:=∀s t:ba,s.length<=1000000->t.length<=1000000->lib 140 [.flat (.string (S s)),.flat (.string (S t))] [] []=some ([.flat (.bool (ie s==ie t))],false,[],[])
def JQ(H:TJ lib)(s)(h:s.length<=1000000):da code lib 79 [.flat (.string (S s))] [] []=some ([.flat (.string (S (ie s)))],false,[],[]):=tf ha ca (H s h)
def Dr(e:Nat):da code lib 76 [.flat (.bool true),.flat (.int .i64 (e:Nat))] [] []=some ([],false,[],[]):=by
 refine ja e0 (qa rfl) ?_;exact ta
def mX(lib:Callee):Prop:=∀s:ba,lib 269 [.flat (.string (S s)),.flat (.string (S [32,9]))] [] []=some ([.flat (.string (S (s.dropWhile vc)))],false,[],[])
structure LibK (lib:Callee):Prop where
 idx:Ge lib
 zW:mX lib
 alike:lX lib
 fold:TJ lib
 cut:Au lib
theorem hE{l l':Callee}(h:Sub l l'):∀n,Sub (Df code l n) (Df code l' n)
 |0=>fun f a b o r h=>by cases h
 |n+1=>fun f a b o r hs=>by
  rw[ov]at hs⊢;cases d:code f with
  |none=>
   rw[d]at hs;dsimp only at hs⊢;split at hs
   ·rename_i c;rw[if_pos c];exact qQ (hE h n) (Aa _) hs
   ·rename_i c;rw[if_neg c];exact h _ _ _ _ _ hs
  |some k=>
   rw[d]at hs;exact fE (hE h n) (Aa _) hs
def Cz:Callee:=fun f args bx oc=>match args,bx,oc with
 |[.flat (.string s)],[],[]=>if f=79/\s.size<=1000 then some ([.flat (.string (S (ie s.data.toList)))],false,[],[])else none
 |[.flat (.string s),.flat (.int .u8 c)],[],[]=>if f=96/\s.size<=1000/\0<=c/\c<256 then some ([.flat (.int .i64 (match Dc c.toNat.toUInt8 s.data.toList with|some i=>(i:Int)|none=>-1))],false,[],[])else none
 |[.flat (.string s),.flat (.string t)],[],[]=>if f=269/\t.data.toList=[32,9]then some ([.flat (.string (S (s.data.toList.dropWhile vc)))],false,[],[])
  else if f=140/\s.size<=1000/\t.size<=1000 then some ([.flat (.bool (ie s.data.toList==ie t.data.toList))],false,[],[])
  else if f=39/\s.size<=1000 then some ([.flat (.string (S (Lib.cut s.data.toList t.data.toList).1)),.flat (.string (S (Lib.cut s.data.toList t.data.toList).2.1)),.flat (.bool (Lib.cut s.data.toList t.data.toList).2.2)],false,[],[])else none
 |_,_,_=>none
def Fl(s:ByteArray):S s.data.toList=s:=by simp[S]
def My(s:ByteArray):s.data.toList.length=s.size:=rfl
def j8(H:LibK lib):Sub Cz lib:=fun f a b o r h=>by
 unfold Cz at h;split at h
 ·rename_i s
  split at h
  ·rename_i d
   obtain⟨rfl,e⟩:=d;cases h;have k:=H.fold s.data.toList (by rw[My];omega);rw[Fl]at k;exact k
  ·cases h
 ·rename_i s c
  split at h
  ·rename_i d
   obtain⟨rfl,e,g,i⟩:=d;cases h;have j:s.data.toList.length=s.size:=rfl;have k:=H.idx s.data.toList c.toNat.toUInt8 aa;have e2:(((c.toNat.toUInt8).toNat:Nat):Int)=c:=by
    rw[Nat.toUInt8,UInt8.toNat_ofNat'];omega
   rw[Fl,e2]at k;exact k
  ·cases h
 ·rename_i s t
  split at h
  ·rename_i d
   obtain⟨rfl,e⟩:=d;cases h;have k:=H.zW s.data.toList;rw[Fl,<-e,Fl]at k;exact k
  ·split at h
   ·rename_i d
    obtain⟨rfl,e,g⟩:=d;cases h;have k:=H.alike s.data.toList t.data.toList (by rw[My];omega) (by rw[My];omega);rw[Fl,Fl]at k;exact k
   ·split at h
    ·rename_i d
     obtain⟨rfl,e⟩:=d;cases h;have k:=H.cut s.data.toList t.data.toList (by rw[My];omega);rw[Fl,Fl]at k;exact k
    ·cases h
 ·cases h
def ke(H:LibK lib){f:FuncId}{args:List PV}{bx:Na}{oc:List Loc}{r:Ye}(h:Df cp Cz 1000 f args bx oc=some r):da code lib f args bx oc=some r:=Um.2 ⟨1000,by rw[Ls];exact hE (j8 H) 1000 _ _ _ _ _ h⟩
abbrev zc(s:ba):Nat×List PV:=(261,[.flat (.string (S s))])
abbrev od(a b:ba):Nat×List PV:=(180,[.flat (.string (S a)),.flat (.string (S b))])
def zbE{r1 r2 r3 r4 r5 k v:ba}(b:v≠[])
 (e1:da code lib 207 [.ptr 0 0] [zc r1,od [] []] []=some ([],false,[zc r2,od [] []],[]))
 (e2:da code lib 208 [.ptr 0 0] [zc r2,od [] []] []=some ([.flat (.string (S k))],false,[zc r3,od [] []],[]))
 (e3:da code lib 137 [.flat (.string (S k))] [] []=some ([.flat (.bool true)],false,[],[]))
 (e4:da code lib 209 [.ptr 0 0,.flat (.int .u8 61)] [zc r3,od [] [],od k []] []=some ([.flat (.bool true)],false,[zc r4,od [] [],od k []],[]))
 (e5:da code lib 209 [.ptr 0 0,.flat (.int .u8 34)] [zc r4,od [] [],od k []] []=some ([.flat (.bool false)],false,[zc r4,od [] [],od k []],[]))
 (e6:da code lib 208 [.ptr 0 0] [zc r4,od [] [],od k []] []=some ([.flat (.string (S v))],false,[zc r5,od [] [],od k []],[])):
 da code lib 210 [.ptr 0 0] [zc r1] []=some ([.agg [.flat (.string (S k)),.flat (.string (S v))],.flat (.bool true)],false,[zc r5],[]):=by
 refine ja zO (qa rfl) ?_;have a:=eq_false b;simp(maxSteps:=999999) (disch:=first|assumption|omega) only[go_sem,simprocAttr,au,e1,e2,e3,e4,e5,e6,a]
def zbF{r1 r2 r3 r4 r5 a k v:ba}
 (e1:da code lib 207 [.ptr 0 0] [zc r1,od [] []] []=some ([],false,[zc r2,od [] []],[]))
 (e2:da code lib 208 [.ptr 0 0] [zc r2,od [] []] []=some ([.flat (.string (S k))],false,[zc r3,od [] []],[]))
 (e3:da code lib 137 [.flat (.string (S k))] [] []=some ([.flat (.bool true)],false,[],[]))
 (e4:da code lib 209 [.ptr 0 0,.flat (.int .u8 61)] [zc r3,od [] [],od k []] []=some ([.flat (.bool true)],false,[zc r4,od [] [],od k []],[]))
 (e5:da code lib 209 [.ptr 0 0,.flat (.int .u8 34)] [zc r4,od [] [],od k []] []=some ([.flat (.bool true)],false,[zc r5,od [] [],od k []],[]))
 (e6:da code lib 270 [.ptr 0 0] [zc r5,od [] [],od k []] []=some ([.flat (.string (S v)),.flat (.bool true)],false,[zc a,od [] [],od k []],[])):
 da code lib 210 [.ptr 0 0] [zc r1] []=some ([.agg [.flat (.string (S k)),.flat (.string (S v))],.flat (.bool true)],false,[zc a],[]):=by
 refine ja zO (qa rfl) ?_;simp(maxSteps:=999999) (disch:=first|assumption|omega) only[go_sem,simprocAttr,au,e1,e2,e3,e4,e5,e6]
def tU{s r0 r1 m k v:ba}(h:m≠[])(e:r0≠[])
 (e1:da code lib 207 [.ptr 0 0] [zc s] []=some ([],false,[zc s],[]))
 (e2:da code lib 208 [.ptr 0 0] [zc s] []=some ([.flat (.string (S m))],false,[zc r0],[]))
 (e3:da code lib 207 [.ptr 0 0] [zc r0] []=some ([],false,[zc r0],[]))
 (e4:da code lib 209 [.ptr 0 0,.flat (.int .u8 59)] [zc r0] []=some ([.flat (.bool true)],false,[zc r1],[]))
 (e5:da code lib 210 [.ptr 0 0] [zc r1] []=some ([.agg [.flat (.string (S k)),.flat (.string (S v))],.flat (.bool true)],false,[zc []],[]))
 (e6:da code lib 211 [.ga 0 [],.cb 212 [.ptr 1 0]] [zc [],od k v] []=some ([.flat (.bool false)],false,[zc [],od k v],[]))
 (c:da code lib 207 [.ptr 0 0] [zc []] []=some ([],false,[zc []],[]))
 (d:da code lib 207 [.ptr 0 0] [zc [],od k v] []=some ([],false,[zc [],od k v],[])):
 da code lib 139 [.flat (.string (S s))] [] []=some ([.flat (.string (S m)),.ga 1 [.flat (.string (S k)),.flat (.string (S v))],.flat (.int .i64 0)],false,[],[]):=by
 refine ja OZ (qa rfl) ?_;have b:=eq_false h;have a:=eq_false e;have g:(1<=za)=True:=eq_true Ie;simp(maxSteps:=999999) (disch:=first|assumption|omega) only[go_sem,simprocAttr,au,e1,e2,e3,e4,e5,e6,c,d,b,a,g,lc,Bb,Mb,Zb,zaM]
abbrev tw(m k v:ba):Ye:=([.flat (.string (S m)),.ga 1 [.flat (.string (S k)),.flat (.string (S v))],.flat (.int .i64 0)],false,[],[])
def sU(H:LibK lib){s m:ba}(a:m≠[])
 (e1:da code lib 207 [.ptr 0 0] [zc s] []=some ([],false,[zc s],[]))
 (e2:da code lib 208 [.ptr 0 0] [zc s] []=some ([.flat (.string (S m))],false,[zc [59,32,99,104,97,114,115,101,116,61,117,116,102,45,56]],[])):
 da code lib 139 [.flat (.string (S s))] [] []=some (tw m [99,104,97,114,115,101,116] [117,116,102,45,56]):=
 tU (r1:=[32,99,104,97,114,115,101,116,61,117,116,102,45,56]) a ha e1 e2 (ke H ca) (ke H ca) (zbE (r2:=[99,104,97,114,115,101,116,61,117,116,102,45,56]) (r3:=[61,117,116,102,45,56]) (r4:=[117,116,102,45,56]) ha (ke H ca) (ke H ca) (ke H ca) (ke H ca) (ke H ca) (ke H ca)) (ke H ca) (ke H ca) (ke H ca)
def zbD(H:LibK lib):da code lib 139 [.flat (.string (S ao))] [] []=some (tw Zk [98,111,117,110,100,97,114,121] bh):=
 tU (r0:=[59,32,98,111,117,110,100,97,114,121,61,34,61,95,110,117,110,99,105,111,34]) (r1:=[32,98,111,117,110,100,97,114,121,61,34,61,95,110,117,110,99,105,111,34]) ha ha (ke H ca) (ke H ca) (ke H ca) (ke H ca) (zbF (r2:=[98,111,117,110,100,97,114,121,61,34,61,95,110,117,110,99,105,111,34]) (r3:=[61,34,61,95,110,117,110,99,105,111,34]) (r4:=[34,61,95,110,117,110,99,105,111,34]) (r5:=[61,95,110,117,110,99,105,111,34]) (ke H ca) (ke H ca) (ke H ca) (ke H ca) (ke H ca) (ke H ca)) (ke H ca) (ke H ca) (ke H ca)
noncomputable def kF:Callee:=fun f args bx oc=>if f=139 then(match args,bx,oc with
 |[.flat (.string s)],[],[]=>if s.data.toList=ax Nc then some (tw (vo Nc) [99,104,97,114,115,101,116] [117,116,102,45,56])else if s.data.toList=ax Vc then some (tw (vo Vc) [99,104,97,114,115,101,116] [117,116,102,45,56])else if s.data.toList=ao then some (tw Zk [98,111,117,110,100,97,114,121] bh)else none
 |_,_,_=>none)else Df cp Cz 1000 f args bx oc
def M7(H:LibK lib):Sub kF (da code lib):=fun f a b o r h=>by
 unfold kF at h;split at h
 ·rename_i c
  subst c;split at h
  ·rename_i s
   rw[<-Fl s];split at h
   ·rename_i e;cases h;rw[e];exact sU H ha (ke H ca) (ke H ca)
   split at h
   ·rename_i e;cases h;rw[e];exact sU H ha (ke H ca) (ke H ca)
   split at h
   ·rename_i e;cases h;rw[e];exact zbD H
   ·cases h
  ·cases h
 ·exact ke H h
def tr(H:LibK lib){f:FuncId}{args:List PV}{r:Ye}(h:(cp f).bind (fun k=>On kF 1000 k args [] [])=some r):da code lib f args [] []=some r:=by
 obtain⟨k,a,b⟩:=qb h;exact pQ (n:=1000) (by rw[Ls];exact a) (fE (M7 H) (Aa _) b)
def PA:ba:=[99,111,110,116,101,110,116,45,116,114,97,110,115,102,101,114,45,101,110,99,111,100,105,110,103]
def B9(H:LibK lib){k:ba}(a:k=Nc\/k=Vc):da code lib 77 [.ga 2 (Ig (ri k))] [] []=some ([.flat (.string (S (vo k))),.flat (.string (S []))],false,[],[]):=by
 rcases a with rfl|rfl
 ·exact tr H ca
 ·exact tr H ca
def A9(H:LibK lib)(a b c:ba):da code lib 77 [.ga 5 (Ig (Zm a b c))] [] []=some ([.flat (.string (S Zk)),.flat (.string (S bh))],false,[],[]):=tr H ca
def S1(H:LibK lib){k:ba}(a:k=Nc\/k=Vc):da code lib 78 [.ga 2 (Ig (ri k)),.flat (.string (S PA))] [] []=some ([.flat (.string (S nl)),.flat (.int .i64 1)],false,[],[]):=by
 rcases a with rfl|rfl
 ·exact tr H ca
 ·exact tr H ca
def R1(H:LibK lib)(a b c:ba):da code lib 78 [.ga 5 (Ig (Zm a b c)),.flat (.string (S PA))] [] []=some ([.flat (.string (S [])),.flat (.int .i64 0)],false,[],[]):=tr H ca
def H_(H:LibK lib):da code lib 82 [.flat (.string (S bh))] [] []=some ([.flat (.bool true)],false,[],[]):=tr H ca
def CA(H:kc lib)(s p)(hs:s.length<=1000000000)(a:p.length<=1000000000):da code lib 80 [.flat (.string (S s)),.flat (.string (S p))] [] []=some ([.flat (.bool (p.isPrefixOf s))],false,[],[]):=tf ha ca (H s p hs a)
def Cn(s line:ba)(q:List ba×Nat×Nat):(List ba×Nat×Nat) ⊕ Option (List ba):=
 if Lib.index (s.drop q.2.2) line=-1 then .inr none else
 let at_:=q.2.2+(Lib.index (s.drop q.2.2) line).toNat
 let a:=s.drop (at_+line.length)
 if([45,45,13,10]:ba).isPrefixOf a then(if a=[45,45,13,10]then .inr (some (q.1++[(s.take at_).drop q.2.1]))else .inr none)
 else if([13,10]:ba).isPrefixOf a then .inl (q.1++[(s.take at_).drop q.2.1],at_+line.length+2,at_+line.length+2)
 else .inl (q.1,q.2.1,at_+1)
def ec(mark:ba):ba:=[13,10,45,45]++mark
def Ku(s mark:ba):Option (List ba):=
 if(ec mark++[13,10]).isPrefixOf ([13,10]++s)then Ob (Cn (([13,10]++s).drop (ec mark++[13,10]).length) (ec mark)) none (s.length+1) ([],0,0)else none
def g6{s w:ba}{n:Nat}(h:Lib.index s w≠-1):(Lib.index s w).toNat+w.length<=s.length/\Lib.index s w=((Lib.index s w).toNat:Int):=by
 have a:=Lib.index_ge s w;have b:=Lib.index_room s w aa;omega
theorem mY(T:uq lib)(R:Yg lib)(N:kc lib)(s mark)(out)(hs:s.length<=100000000)(hmZ:mark.length<=1000000)(h:Ku s mark=some out)(BX:List ba->Na)(oc)(b P Q nb)
 (U:∀a,(BX a)[P]?=some (9,[.flat (.string (S mark))])) (V:∀a,(BX a)[Q]?=some (9,[.flat (.string (S s))])) (e:∀a,(BX a).length=nb) (B:∀q∈oc,q.1<nb)
 (E:∀a x,a.length<=s.length->da code lib hb [.Oa b,.flat (.string (S x))] (BX a) (cl oc)=some ([.flat (.bool true)],false,BX (a++[x]),cl oc)):
 da code lib 145 [.Oa b,.ptr P 0,.ptr Q 0] (BX []) (cl oc)=some ([],false,BX out,cl oc):=by
 have X:za=4294967296:=rfl;unfold Ku at h;split at h
 case isFalse=>cases h
 rename_i o;have H:(ec mark).length=mark.length+4:=by unfold ec;simp
 have c1:=Rs R ([13,10]++s) (ec mark++[13,10]) la;rw[if_pos o,o]at c1;have I:=ln o;simp only[Da,sa,Ca]at I;have K:(([13,10]++s).drop (ec mark++[13,10]).length).length<=s.length:=by simp only[fc,Da,sa,Ca];omega
 obtain⟨rest,w⟩:∃r,([13,10]++s).drop (ec mark++[13,10]).length=r:=⟨_,rfl⟩;rw[w]at h c1 K;simp only[Fa,Ma]at c1;obtain⟨line,g⟩:∃l,ec mark=l:=⟨_,rfl⟩;have e1:S (13::10::45::45::mark)=S line:=by rw[<-g];rfl
 rw[g]at h c1 H;have k:=Dr (lib:=lib) 7;have W:((7:Nat):Int)=7:=rfl;rw[W]at k
 have j:=Dh (body:=oa (da code lib) ia jC) (live:=[0,4,5,7,8]) (nb:=nb) (fun q:List ba×Nat×Nat=>(⟨[(0,.Oa b),(4,.flat (.string (S line))),(5,.flat (.string (S rest))),(7,.flat (.int .i64 (q.2.1:Nat))),(8,.flat (.int .i64 (q.2.2:Nat)))],cl oc,[],BX q.1⟩:St))
  (fun q=>q.2.1<=q.2.2/\q.2.2<=rest.length/\q.1.length<=q.2.2/\∃n,rest.length+1<=n+q.2.2/\Ob (Cn rest line) none n q=some out) (fun q=>rest.length - q.2.2)
  (fun q=>(.ret,⟨[],cl oc,[],BX out⟩)) (fun q J=>?_) (n:=ia) (a:=([],0,0)) ⟨Aa _,Ab _,Aa _,s.length+1,aa,h⟩ (by grind [ia])
 ·simp only[n0]at j
  have g1:=U [];have u:=V [];have g3:=e [];have g4:=e out;have y:=pb oc B;refine ja d0 (qa rfl) ?_;have e2:S (line++[13,10])=S (line++[13,10]):=rfl;clear h;simp(maxSteps:=999999) (disch:=first|assumption|omega) only[go_sem,simprocAttr,au,g1,u,g3,g4,e1,c1,k,Ce g3,Ce g4,y,j]
 ·obtain⟨a,fr,at_⟩:=q
  obtain⟨Y,Z,k3Z,n,G,d⟩:=J;dsimp only at Y Z k3Z G d⊢;cases n with
  |zero=>omega
  |succ n=>
   have F:=IR T (rest.drop at_) line la;by_cases A:Lib.index (rest.drop at_) line=-1
   ·rw[hd (r:=none) (by grind [Cn])]at d;cases d
   ·obtain⟨r1,r2⟩:=g6 (n:=0) A
    rw[fc]at r1;obtain⟨i,O⟩:∃i,(Lib.index (rest.drop at_) line).toNat=i:=⟨_,rfl⟩;rw[O]at r1 r2;rw[r2]at F
    have c:Cn rest line (a,fr,at_)=(if([45,45,13,10]:ba).isPrefixOf (rest.drop (at_+i+line.length))then(if rest.drop (at_+i+line.length)=[45,45,13,10]then .inr (some (a++[(rest.take (at_+i)).drop fr]))else .inr none)
     else if([13,10]:ba).isPrefixOf (rest.drop (at_+i+line.length))then .inl (a++[(rest.take (at_+i)).drop fr],at_+i+line.length+2,at_+i+line.length+2)else .inl (a,fr,at_+i+1)):=by
     unfold Cn;dsimp only;rw[if_neg A,O]
    have M:((at_:Int)+(i:Int)+(line.length:Int)).toNat=at_+i+line.length:=aa
    have g1:=e a;have y:=pb oc B;have p:=CA N (rest.drop (at_+i+line.length)) [45,45,13,10] (by rw[fc];omega) ha;have t:=CA N (rest.drop (at_+i+line.length)) [13,10] (by rw[fc];omega) ha;have L:rest.take rest.length=rest:=pm;have D:=E a ((rest.take (at_+i)).drop fr) aa;have u:=e (a++[(rest.take (at_+i)).drop fr]);cases C:([45,45,13,10]:ba).isPrefixOf (rest.drop (at_+i+line.length))with
    |true=>
     rw[C]at c p;simp only[if_true]at c;by_cases v:rest.drop (at_+i+line.length)=[45,45,13,10]
     ·rw[if_pos v]at c
      rw[hd c]at d;simp only[Pb]at d;left;refine⟨_,_,?_,ea,rfl⟩;have J:=eq_true v;rw[<-d];clear c d G h E;simp(maxSteps:=999999) (disch:=first|assumption|omega) only[go_sem,simprocAttr,au,KH,L,M,F,k,p,J,D,g1,u,Ib,Db,Rb,Ce g1,Ce u,y,Bc]
     ·rw[if_neg v]at c
      rw[hd c]at d;cases d
    |false=>
     rw[C]at c p;simp only[Ha,if_false]at c;cases v:([13,10]:ba).isPrefixOf (rest.drop (at_+i+line.length))with
     |true=>
      rw[v]at c t;simp only[if_true]at c;rw[hf c]at d;right;have z:=ln v;rw[fc]at z;simp only[sa,Ca]at z;refine⟨⟨[(0,.Oa b),(4,.flat (.string (S line))),(5,.flat (.string (S rest))),(7,.flat (.int .i64 ((at_+i+line.length+2:Nat):Nat))),(8,.flat (.int .i64 ((at_+i+line.length+2:Nat):Nat)))],cl oc,[],BX (a++[(rest.take (at_+i)).drop fr])⟩,(a++[(rest.take (at_+i)).drop fr],at_+i+line.length+2,at_+i+line.length+2),?_,?_,⟨Aa _,wh,by simp only[Da,sa,Ca];omega,n,la,d⟩,wh,rfl⟩
      ·clear c d G h E
       simp(maxSteps:=999999) (disch:=first|assumption|omega) only[go_sem,simprocAttr,au,KH,L,M,F,k,p,t,D,g1,u,Ib,Db,Rb,Ce g1,Ce u,y,Bc]
      ·simp(maxSteps:=999999) (disch:=first|assumption|omega) only[go_sem,simprocAttr,au,u,Jb,ob,Ib,Db,Rb,Ce u,y]
     |false=>
      rw[v]at c t;simp only[Ha,if_false]at c;rw[hf c]at d;right;refine⟨⟨[(0,.Oa b),(4,.flat (.string (S line))),(5,.flat (.string (S rest))),(7,.flat (.int .i64 (fr:Nat))),(8,.flat (.int .i64 ((at_+i+1:Nat):Nat)))],cl oc,[],BX a⟩,(a,fr,at_+i+1),?_,?_,⟨la,la,la,n,la,d⟩,wh,rfl⟩
      ·clear c d G h E
       simp(maxSteps:=999999) (disch:=first|assumption|omega) only[go_sem,simprocAttr,au,KH,L,M,F,k,p,t,g1,Db,Rb,Ce g1,Bc]
      ·simp(maxSteps:=999999) (disch:=first|assumption|omega) only[go_sem,simprocAttr,au,g1,Jb,ob,Ib,Db,Rb,Ce g1,y]
def UK(s mark)(bx)(oc)(h:∀q∈oc,q.1<bx.length):da code lib 83 [.flat (.string (S s)),.flat (.string (S mark))] bx (cl oc)=some ([.cb 145 [.ptr (bx.length+1) 0,.ptr bx.length 0]],false,bx++[(9,[.flat (.string (S s))]),(9,[.flat (.string (S mark))])],cl oc):=by
 refine ja c0 (qa rfl) ?_;have a:¬(bx.length+1+1=bx.length):=aa
 have b:sc (bx.length+1+1) (cl oc)=cl oc:=pb _ fun q d=>by grind
 have c:bx.length+1+1=bx.length+2:=rfl;simp only[go_sem,simprocAttr,Jb,ob,Ib,Db,Da,a,Nat.lt_irrefl,b,Ac]
def yE{α:Type}(a l:List α)(k:Nat):(a++l)[a.length+k]?=l[k]?:=by rw[Af aa];congr 1;omega
def T5(a l:List UInt8)(k:Nat):ni (a++l) (((a.length+k:Nat):Int)+1)=ni l ((k:Int)+1):=by
 unfold ni;have e2:(((a.length+k:Nat):Int)+1).toNat=a.length+(k+1):=aa
 have e4:((k:Int)+1).toNat=k+1:=aa
 rw[if_neg aa,if_neg aa,e2,e4,yE,show a.length+(k+1)+1=a.length+(k+1+1) by omega,yE]
def i3(a l:List UInt8)(k:Nat):lj (a++l) (a.length+k)=lj l k:=by
 unfold lj;rw[yE,JK,JK,T5]
def Hy{b l o:List UInt8}(a:0<b.length)(h:lj (b++l) 0=some (o,b.length)):Je (b++l)=(Je l).map (o++·):=by
 unfold Je;rw[fV (Xq _) (by rw[Da];omega) h,Da,show 0+b.length=b.length+0 by omega,zdE (i3 b l)]
def Jq(s w:List UInt8):Sh s w ((0:Nat):Int)=w.isPrefixOf s:=IK s w 0 (Ab _)
def l2(l:List UInt8):Je ([13,10]++l)=(Je l).map ([10]++·):=Hy ea (by
 unfold lj;rw[Jq];simp[List.isPrefixOf])
def o2(l:List UInt8):Je ([61,13,10]++l)=Je l:=by
 have:=Hy (b:=[61,13,10]) (l:=l) (o:=[]) ea (by
  unfold lj;rw[Jq,Jq];simp[List.isPrefixOf])
 rw[this];cases Je l<;>simp
def m2(c:UInt8)(l:List UInt8)(h:Mi c=true\/c=32\/c=9):Je ([c]++l)=(Je l).map ([c]++·):=Hy ea (by
 have b:¬c=13:=by rintro rfl;revert h;decide
 have a:¬c=61:=by rintro rfl;revert h;decide
 unfold lj;rw[Jq,Jq];have e1:(([13,10]:List UInt8).isPrefixOf ([c]++l))=false:=by simp[List.isPrefixOf,beq_eq_false_iff_ne.2 (fun h=>b (Eq.symm h))]
 have e2:(([61,13,10]:List UInt8).isPrefixOf ([c]++l))=false:=by simp[List.isPrefixOf,beq_eq_false_iff_ne.2 (fun h=>a (Eq.symm h))]
 rw[e1,e2];rcases h with h|h|h<;>simp[h,a]
 all_goals decide)
def U5:∀c:UInt8,iz (Tk (c/16)) (Tk (c % 16))=some c:=Hb
def X5:∀c:UInt8,(Tk (c/16)==13)=false:=Hb
def q2(c:UInt8)(l:List UInt8):Je ((61::pair c)++l)=(Je l).map ([c]++·):=Hy ea (by
 unfold lj;rw[Jq,Jq];have e1:(([13,10]:List UInt8).isPrefixOf ((61::pair c)++l))=false:=by simp[List.isPrefixOf]
 have e2:(([61,13,10]:List UInt8).isPrefixOf ((61::pair c)++l))=false:=by
  have:=X5 c;simp[List.isPrefixOf,pair];intro h;rw[<-h]at this;exact absurd this ha
 rw[e1,e2];have e3:ni ((61::pair c)++l) (((0:Nat):Int)+1)=some c:=by
  unfold ni;rw[if_neg aa];simp[pair,U5]
 simp only[Fa,Bo,Ha,if_false,if_true];rw[Fa]at e3;rw[e3];simp[pair])
def xP(c:UInt8)(t l:List UInt8):Je (piece c t++l)=(Je l).map ([c]++·):=by
 unfold piece;split
 ·rename_i h
  refine m2 c l ?_;simp at h;rcases h with h|⟨h,_⟩
  ·exact .inl h
  ·exact .inr h
 ·exact q2 c l
def f2(s:List UInt8):∀line,Je (eb line s)=some s:=by
 induction s with
 |nil=>intro line;rfl
 |cons c t a=>
  intro line;unfold eb;split
  ·rename_i h
   rw[show 13::10::eb 0 t=[13,10]++eb 0 t from rfl,l2,a,h];rfl
  ·split
   ·rw[o2,xP,a];rfl
   ·rw[xP,a];rfl
set_option maxRecDepth 100000
def Tb:ba:=[61,95,110,117,110,99,105,111]
def LR(p r:ba)(h:oe p=true):Lib.index (p++(ec Tb++r)) (ec Tb)=(p.length:Int):=by
 refine PE p _ r ha fun i b=>?_
 have a:p.drop i≠[]:=fun e=>by have:=congrArg List.length e;rw[fc]at this;simp at this;omega
 have:=zat (w:=[110,117,110,99,105,111]) (r:=[10,45,45]++Tb++r) a (qT p i h);exact this
def kY{pre p r:ba}{out:List ba}(h:oe p=true):Cn (pre++(p++(ec Tb++([13,10]++r)))) (ec Tb) (out,pre.length,pre.length)=.inl (out++[p],(pre++p++ec Tb++[13,10]).length,(pre++p++ec Tb++[13,10]).length):=by
 have g:(pre++(p++(ec Tb++([13,10]++r)))).drop pre.length=p++(ec Tb++([13,10]++r)):=ea
 have i:=LR p ([13,10]++r) h;have a:¬((p.length:Int)=-1):=aa
 have d:(pre++(p++(ec Tb++([13,10]++r)))).drop (pre.length+p.length+(ec Tb).length)=[13,10]++r:=by
  have e:pre++(p++(ec Tb++([13,10]++r)))=(pre++p++ec Tb)++([13,10]++r):=by simp only[Ac]
  rw[e,show pre.length+p.length+(ec Tb).length=(pre++p++ec Tb).length by simp only[Da]];exact es
 have ht:((pre++(p++(ec Tb++([13,10]++r)))).take (pre.length+p.length)).drop pre.length=p:=by
  rw[<-Ac,show pre.length+p.length=(pre++p).length by simp only[Da],List.take_left];exact es
 unfold Cn;dsimp only;rw[g,i,if_neg a,gc,d,ht];have b:([45,45,13,10]:ba).isPrefixOf ([13,10]++r)=false:=rfl;have c:([13,10]:ba).isPrefixOf ([13,10]++r)=true:=by simp[List.isPrefixOf]
 rw[b,c];simp only[Ha,if_false,if_true,Da,sa,Ca]
def jY{pre p:ba}{out:List ba}(h:oe p=true):Cn (pre++(p++(ec Tb++[45,45,13,10]))) (ec Tb) (out,pre.length,pre.length)=.inr (some (out++[p])):=by
 have c:(pre++(p++(ec Tb++[45,45,13,10]))).drop pre.length=p++(ec Tb++[45,45,13,10]):=ea
 have d:=LR p [45,45,13,10] h;have a:¬((p.length:Int)=-1):=aa
 have b:(pre++(p++(ec Tb++[45,45,13,10]))).drop (pre.length+p.length+(ec Tb).length)=[45,45,13,10]:=by
  have e:pre++(p++(ec Tb++[45,45,13,10]))=(pre++p++ec Tb)++[45,45,13,10]:=by simp only[Ac]
  rw[e,show pre.length+p.length+(ec Tb).length=(pre++p++ec Tb).length by simp only[Da]];exact es
 have ht:((pre++(p++(ec Tb++[45,45,13,10]))).take (pre.length+p.length)).drop pre.length=p:=by
  rw[<-Ac,show pre.length+p.length=(pre++p).length by simp only[Da],List.take_left];exact es
 unfold Cn;dsimp only;rw[c,d,if_neg a,gc,b,ht];rfl
def lY(p q:ba)(j:oe p=true)(k:oe q=true):Ku (zt Tb++(p++(Cs Tb++(q++Us Tb)))) Tb=some [p,q]:=by
 have g:zt Tb++(p++(Cs Tb++(q++Us Tb)))=[45,45]++Tb++[13,10]++(p++(ec Tb++([13,10]++(q++(ec Tb++[45,45,13,10]))))):=by
  simp only[zt,Cs,Us,ec,Ac]
 rw[g];obtain⟨R,d⟩:∃R,R=p++(ec Tb++([13,10]++(q++(ec Tb++[45,45,13,10])))):=⟨_,rfl⟩;rw[<-d];have b:(ec Tb++[13,10]).isPrefixOf ([13,10]++([45,45]++Tb++[13,10]++R))=true:=by
  rw[zk];exact⟨_,rfl⟩
 have h:([13,10]++([45,45]++Tb++[13,10]++R)).drop (ec Tb++[13,10]).length=R:=rfl;unfold Ku;rw[if_pos b,h];obtain⟨n,i⟩:∃n,([45,45]++Tb++[13,10]++R).length+1=n+2:=⟨([45,45]++Tb++[13,10]++R).length - 1,ea⟩;rw[i];have e1:R=[]++(p++(ec Tb++([13,10]++(q++(ec Tb++[45,45,13,10]))))):=by rw[d];rfl
 have s1:=kY (pre:=[]) (out:=[]) (r:=q++(ec Tb++[45,45,13,10])) j;rw[<-e1]at s1;rw[show([]:ba).length=0 from rfl]at s1;rw[hf (n:=n+1) s1];have e2:R=([]++p++ec Tb++[13,10])++(q++(ec Tb++[45,45,13,10])):=by rw[d];simp only[Ac,Ma]
 obtain⟨c,a⟩:∃x,[]++p++ec Tb++[13,10]=x:=⟨_,rfl⟩;rw[a]at e2⊢;have e:=jY (pre:=c) (out:=[]++[p]) k;rw[<-e2]at e;rw[hd (n:=n) e];rfl
variable {lib:Callee}
def UJ(lib:Callee):Prop:=∀s:ba,s.length<=10000->lib 75 [.flat (.string (S s))] [] []=some ((match Pg s with| .form=>[.ga 0 [],.flat (.int .i64 0),.flat (.int .i64 7)]| .long=>[.ga 0 [],.flat (.int .i64 0),.flat (.int .i64 6)]| .ok F at_=>[.ga F.length (Ig F),.flat (.int .i64 (at_:Nat)),.flat (.int .i64 0)]),false,[],[])
def VI(H:UJ lib)(s)(h:s.length<=10000):da code lib 75 [.flat (.string (S s))] [] []=some ((match Pg s with| .form=>[.ga 0 [],.flat (.int .i64 0),.flat (.int .i64 7)]| .long=>[.ga 0 [],.flat (.int .i64 0),.flat (.int .i64 6)]| .ok F at_=>[.ga F.length (Ig F),.flat (.int .i64 (at_:Nat)),.flat (.int .i64 0)]),false,[],[]):=tf ha ca (H s h)
def LB(lib:Callee):Prop:=∀s:ba,s.length<=1000000->lib 143 [.flat (.string (S s))] [] []=some ((match Je s with|some t=>[.flat (.string (S t)),.flat (.int .i64 0)]|none=>[.flat (.string (S [])),.flat (.int .i64 7)]),false,[],[])
def I2(H:LB lib)(s)(h:s.length<=1000000):da code lib 143 [.flat (.string (S s))] [] []=some ((match Je s with|some t=>[.flat (.string (S t)),.flat (.int .i64 0)]|none=>[.flat (.string (S [])),.flat (.int .i64 7)]),false,[],[]):=tf ha ca (H s h)
structure Jo (lib:Callee):Prop extends LibK lib where
 pre:kc lib
 dq:LB lib
 Mk:Yg lib
 ind:uq lib
 WA:UJ lib
def zdK(a:LB lib)(s t)(hs:s.length<=1000000)(h:Je s=some t):da code lib 81 [.flat (.string (S s)),.flat (.string (S nl))] [] []=some ([.flat (.string (S t))],false,[],[]):=by
 have g:da code lib 76 [.flat (.bool true),.flat (.int .i64 7)] [] []=some ([],false,[],[]):=Dr 7;have e:=I2 a s hs;rw[h]at e;dsimp only at e;have b:(nl=[55,98,105,116])=False:=eq_false ha;have d:(nl=[113,117,111,116,101,100,45,112,114,105,110,116,97,98,108,101])=True:=eq_true rfl;clear h;generalize nl=c at*;exact xa f0
def Se(k s:ba):List PV:=[.ga 2 (Ig (ri k)),.flat (.string (S (vo k))),.flat (.string (S s)),.ga 0 []]
def zP:List PV:=[.ga 0 [],.flat (.string (S [])),.flat (.string (S [])),.ga 0 []]
def hj(j:Nat):Na:=[(52,zP),(24,[.flat (.int .i64 0)]),(93,[.flat (.int .i64 (j:Nat))])]
def Kq(j:Nat)(F:List PV)(b:Nat)(P A:List PV)(a:Nat)(ty bd mk:ba):Na:=[(52,zP),(24,[.flat (.int .i64 0)]),(93,[.flat (.int .i64 (j:Nat))]),(52,zP),(52,[.ga 5 F,.flat (.string (S ty)),.flat (.string (S [])),.ga b P]),(29,[.ga a A]),(9,[.flat (.string (S bd))]),(9,[.flat (.string (S mk))])]
def gw:List Loc:=[.cell 5 0,.cell 3 0,.cell 3 3,.cell 0 0,.cell 0 3]
def Up:List Loc:=[.cell 5 0,.cell 4 3,.cell 3 0,.cell 3 3,.cell 0 0,.cell 0 3]
def iw:List Loc:=[.cell 4 3,.cell 5 0,.cell 3 0,.cell 3 3,.cell 0 0,.cell 0 3]
def yS(L:Jo lib){k:ba}(c:k=Nc\/k=Vc)(s:ba)(hs:s.length<=250)(j:Nat){F:List PV}(hF:∀n,Ia n F=true)(h:Nat){P:List PV}(E:∀n,Ia n P=true){A:List PV}(D:∀n,Ia n A=true)(g:Nat)(ty bd mk:ba){oc:List Loc}(v:oc=gw\/oc=Up\/oc=iw):
 da code lib 37 [.ptr 2 0,.flat (.string (S (Re k s))),.flat (.int .i64 1)] (Kq j F h P A g ty bd mk) oc=some ([.agg (Se k s)],false,Kq j F h P A g ty bd mk,oc):=by
 have G:=hI c hs;have r:=Ts s 0;obtain⟨a,e,B,C⟩:∃a,Pg (Re k s)=.ok (ri k) a/\(Re k s).drop a=eb 0 s/\a<=(Re k s).length:=by
  rcases c with rfl|rfl
  ·exact⟨_,ze5 s,bE _ _,by simp[Re]⟩
  ·exact⟨_,ze3 s,bE _ _,by simp[Re]⟩
 have d:=VI L.WA (Re k s) aa;rw[e]at d;have p:(ri k).length=2:=rfl;dsimp only at d;rw[p]at d;have x:=B9 L.toLibK c;have i:=S1 L.toLibK c;have l:=JQ L.fold nl ha;rw[show ie nl=nl by decide]at l;have o:=CA L.pre (vo k) [109,117,108,116,105,112,97,114,116,47] (by rcases c with rfl|rfl<;>decide) ha;rw[show([109,117,108,116,105,112,97,114,116,47]).isPrefixOf (vo k)=false by rcases c with rfl|rfl<;>decide]at o;have y:=zdK L.dq (eb 0 s) s aa (f2 s 0);have H:da code lib 76 [.flat (.bool true),.flat (.int .i64 0)] [] []=some ([],false,[],[]):=Dr 0;have u:=dr (ri k);have t:=fun n=>xp (n:=n) (ri k)
 unfold PA at i;unfold Se Kq zP;clear e L;generalize Ig (ri k)=z at*;generalize Re k s=b at*;generalize vo k=w at*;generalize eb 0 s=en at*;generalize nl=q at*;rcases v with rfl|rfl|rfl
 ·unfold gw
  exact xa Ms
 ·unfold Up
  exact xa Ms
 ·unfold iw
  exact xa Ms
def Mp(m:tc):List PV:=Ig (Zm (Sc m.fr) (Sc m.to) (Sc m.su))
def oi(m:tc):List PV:=[.ga 5 (Mp m),.flat (.string (S Zk)),.flat (.string (S [])),.ga 2 (Se Nc m.te++Se Vc m.ht)]
def Ds(F:List PV)(ty bd mk:ba)(out:List ba):Na:=Kq 0 F 0 [] (va out) out.length ty bd mk++[(0,[.lp 37 0 .ready [14] [.ptr 5 0]])]
def L5(F:List PV)(ty bd mk x:ba)(out:List ba)(e:out.length<=1000000):
 da code lib hb [.Oa 8,.flat (.string (S x))] (Ds F ty bd mk out) Up=some ([.flat (.bool true)],false,Ds F ty bd mk (out++[x]),Up):=by
 have d:za=4294967296:=rfl;refine vp ip Ms rfl (by unfold Ds Kq;rfl) rfl ?_;have a:[PV.flat (.string (S x))]=va [x]:=rfl;have b:va out++[PV.flat (.string (S x))]=va (out++[x]):=by rw[a,Nr]
 have c:(out++[x]).length=out.length+1:=ea
 unfold Ds Kq Up zP;rw[<-b,c];clear a b c;exact Lg @kR.eq_1 @UQ.eq_1 @dd @Mf
def C_(L:Jo lib)(m:tc)(k:m.Sn):
 da code lib 37 [.ptr 2 0,.flat (.string (S (Eg Ra (eb 0) m))),.flat (.int .i64 0)] (hj 0) [.cell 0 0,.cell 0 3]=some ([.agg (oi m)],false,hj 2,[.cell 0 0,.cell 0 3]):=by
 have I:za=4294967296:=rfl;have J:=aL m k;have l:=VI L.WA _ J;rw[ze4]at l;have p:(Zm (Sc m.fr) (Sc m.to) (Sc m.su)).length=5:=rfl;dsimp only at l;rw[p]at l;have V:=A9 L.toLibK (Sc m.fr) (Sc m.to) (Sc m.su);have B:=R1 L.toLibK (Sc m.fr) (Sc m.to) (Sc m.su);have C:=JQ L.fold [55,98,105,116] ha;rw[show ie [55,98,105,116]=[55,98,105,116] by decide]at C;have D:=CA L.pre Zk [109,117,108,116,105,112,97,114,116,47] ha ha;rw[show([109,117,108,116,105,112,97,114,116,47]).isPrefixOf Zk=true by decide]at D;have W:=H_ L.toLibK;have E:(Eg Ra (eb 0) m).drop ((Wa (Sk m)).length+2)=gj m:=by rw[jy];exact bE _ _
 have H:(gj m).length<=10000:=by rw[<-E,fc];omega
 have r:Ku (gj m) bh=some [Re Nc m.te,Re Vc m.ht]:=lY _ _ (rT (.inl rfl)) (rT (.inr rfl));have G:(Wa (Sk m)).length+2<=(Eg Ra (eb 0) m).length:=by rw[jy];simp
 have Z:da code lib 76 [.flat (.bool true),.flat (.int .i64 0)] [] []=some ([],false,[],[]):=Dr 0;have m7Z:da code lib 76 [.flat (.bool true),.flat (.int .i64 7)] [] []=some ([],false,[],[]):=Dr 7;have m8Z:da code lib 76 [.flat (.bool true),.flat (.int .i64 8)] [] []=some ([],false,[],[]):=Dr 8;have m5Z:da code lib 76 [.flat (.bool true),.flat (.int .i64 5)] [] []=some ([],false,[],[]):=Dr 5;have M:=dr (Zm (Sc m.fr) (Sc m.to) (Sc m.su));have e:=fun n=>xp (n:=n) (Zm (Sc m.fr) (Sc m.to) (Sc m.su))
 have b:∀n,Ia n (Se Nc m.te)=true:=fun n=>by simp only[Se,Ia,PV.low,xp,Bg]
 have h:∀n,Ia n (Se Vc m.ht)=true:=fun n=>by simp only[Se,Ia,PV.low,xp,Bg]
 have d:∀n,Ia n (va [Re Nc m.te,Re Vc m.ht])=true:=fun n=>ed _
 have i:=mY (lib:=lib) L.ind L.Mk L.pre (gj m) bh _ aa ha r (Ds (Mp m) Zk (gj m) bh) [(5,0),(4,3),(3,0),(3,3),(0,0),(0,3)] 8 7 6 9 (fun a=>rfl) (fun a=>rfl) (fun a=>rfl) ha (fun a x Y=>L5 _ _ _ _ x a aa);have g:=UK (lib:=lib) (gj m) bh [(52,zP),(24,[.flat (.int .i64 0)]),(93,[.flat (.int .i64 0)]),(52,zP),(52,[.ga 5 (Mp m),.flat (.string (S Zk)),.flat (.string (S [])),.ga 0 []]),(29,[.ga 0 []])] [(5,0),(4,3),(3,0),(3,3),(0,0),(0,3)] (show∀q∈([(5,0),(4,3),(3,0),(3,3),(0,0),(0,3)]:List (Nat×Nat)),q.1<6 by decide);have c:=UK (lib:=lib) (gj m) bh [] [] ea;have g1:=fun oc o=>yS L (.inl rfl) m.te k.2.2.2.1 2 (F:=Mp m) e 0 (P:=[]) (fun _=>rfl) (A:=va [Re Nc m.te,Re Vc m.ht]) d 2 Zk (gj m) bh (oc:=oc) o
 have j:=fun oc o=>yS L (.inr rfl) m.ht k.2.2.2.2 2 (F:=Mp m) e 1 (P:=Se Nc m.te) b (A:=va [Re Nc m.te,Re Vc m.ht]) d 2 Zk (gj m) bh (oc:=oc) o
 have v:=g1 gw (.inl rfl);have w:=g1 Up (.inr (.inl rfl));have a3:=g1 iw (.inr (.inr rfl));have b1:=j gw (.inl rfl);have y:=j Up (.inr (.inl rfl));have z:=j iw (.inr (.inr rfl));clear g1 j r L;have t:Eb (Se Nc m.te)=true:=by simp only[Se,Eb,PV.sj,dr,Bg]
 have u:Eb (Se Vc m.ht)=true:=by simp only[Se,Eb,PV.sj,dr,Bg]
 have N:(Se Nc m.te).length=4:=rfl;have O:(Se Vc m.ht).length=4:=rfl;have K:∀n,Ia n (Se Nc m.te++Se Vc m.ht)=true:=fun n=>by rw[Wz,b,h];rfl
 have T:Dd (Se Nc m.te)=Se Nc m.te:=rfl;have U:Dd (Se Vc m.ht)=Se Vc m.ht:=rfl;have Q:td (Se Nc m.te)=true:=rfl;have R:td (Se Vc m.ht)=true:=rfl;clear p k;unfold oi hj;simp only[Ds,Kq,zP,cl,Xb,Fe,Fa,Ma,sa,Ca,show va []=[]from rfl,va,Zc,Nat.reduceAdd,n0,show((2:Nat):Int)=2 from rfl,gw,Up,iw]at i g c v w a3 b1 y z d⊢;unfold PA at B;unfold Mp at*;generalize Ig (Zm (Sc m.fr) (Sc m.to) (Sc m.su))=X at*;generalize Se Nc m.te=ppZ at*;generalize Se Vc m.ht=phZ at*;generalize Re Nc m.te=x1Z at*;generalize Re Vc m.ht=x2Z at*;generalize Eg Ra (eb 0) m=s at*;generalize (Wa (Sk m)).length+2=at_ at*;generalize gj m=bd at*;generalize Zk=ty at*;generalize bh=mk at*;refine ja Ms (qa rfl) ?_;exact ze @lc @Bb @Mb @Zb @Wc zaN
def gI:ka:=.kb [0,2,3] [] [⟨some 2,none,.alloc 52 [.flat (.slice none 0 0),.flat (.string ⟨#[]⟩),.flat (.string ⟨#[]⟩),.flat (.slice none 0 0)]⟩,⟨some 3,none,.alloc 24 [.flat (.int .i64 0)]⟩]
def fI:ka:=.seq (.kb [0,2,3,4] [] [⟨some 6,none,.build [.flat (.int .i64 0)] []⟩,⟨some 7,none,.box 93 1 (.t 6)⟩,⟨some 4,none,.asg (.t 7)⟩]) (.seq (.kb [2,3] [] [⟨some 8,none,.mv (.t 4)⟩,⟨some 9,none,.mv (.t 0)⟩,⟨some 10,none,.call 37 [.t 8,.t 9,.c (.flat (.int .i64 0))]⟩,⟨none,none,.store 4 (.t 2) (.t 10)⟩,⟨none,none,.store 1 (.t 3) (.c (.flat (.int .i64 0)))⟩]) (.ret [2,3]))
def il:tm:=⟨11,[.inr ⟨2,⟨true,4⟩⟩,.inr ⟨3,⟨false,1⟩⟩],gI,5,36,[.t 2,.t 3],fI⟩
def qU:Is Tryz.prog [] [[0,2,3]] [[0,2,3,4],[2,3],[2,3]] 19=some il:=ca
def zbN(L:Jo lib)(m:tc)(g:m.Sn):tq (da code lib) ia il [.flat (.string (S (Eg Ra (eb 0) m)))] [] [] ([.agg (oi m),.flat (.int .i64 0)],false,[],[]):=by
 have a:=C_ L m g;have b:∀n,Ia n (oi m)=true:=fun n=>by simp only[oi,Mp,Se,Fa,Ma,Ia,PV.low,xp,Bg]
 have j:(PV.agg (oi m)).mi=true:=rfl;have l:(oi m).length=4:=rfl;have o:Dd (oi m)=oi m:=rfl;clear L;generalize Eg Ra (eb 0) m=s at*;have k:gd 0 0 (oi m)=[]:=rfl;have h:([Sum.inr (2,true,4),Sum.inr (3,false,1)]:List (Sum Nat (Nat×Bool×Nat))).mapM (Bj ⟨[(2,.ptr 0 0),(3,.ptr 1 0)],[],[],[(52,oi m),(24,[.flat (.int .i64 0)]),(93,[.flat (.int .i64 2)])]⟩)=some [.agg (oi m),.flat (.int .i64 0)]:=rfl;generalize oi m=d at*;simp only[hj,zP,n0,show((2:Nat):Int)=2 from rfl]at a;refine⟨qa rfl,.normal,⟨[(0,.flat (.string (S s))),(2,.ptr 0 0),(3,.ptr 1 0)],[.cell 0 0,.cell 0 3],[],[(52,zP),(24,[.flat (.int .i64 0)])]⟩,?_,.ret,⟨[(2,.ptr 0 0),(3,.ptr 1 0)],[],[],[(52,d),(24,[.flat (.int .i64 0)]),(93,[.flat (.int .i64 2)])]⟩,?_,(fun i e=>by cases e),?_⟩
 ·unfold il gI zP
  exact ta
 ·unfold il fI tm.mid zP
  exact ta
 ·have c:Ia 0 [PV.agg d,.flat (.int .i64 0)]=true:=by simp only[Ia,PV.low,b,Bg]
  unfold il Xs;dsimp only;rw[h,jd];simp[trim,c,Th,jo]
def zau:VJ Tryz.prog 36 2:=by
 intro b w h
 match b,h with
 |[p,q],_=>
 refine callsDIn_of_wpSIn Tryz.func36 rfl trivial fun a cs c=>?_
 simp only[Tryz.ntmps36,ou,sa,Ca,Nat.reduceAdd,Nat.reduceSub,pu,qu,ru,tu,Ma,Fa];apply wpSIn_seq;apply wpSIn_region;simp[wpOpsSIn,go_sem,recoverD,c,Exit.thenS];apply wpSIn_seq;apply wpSIn_seq;apply wpSIn_region;simp[wpOpsSIn,go_sem,Exit.thenS];refine wpSIn_cond (t:=true) (by simp[Act.eval]) ?_;simp only[if_true];refine wpSIn_of_wpIn rfl (wpIn_ret ?_);cases a;simp_all[bodyPostS,results,Tryz.results36,Exit.thenS]
def zbP(cf:Callee)(n:Nat)(D:tm){args:List PV}{bx:Na}{oc:List ya.Loc}{r r':Ye}(h:tq cf n D args bx oc r)(k:tq cf n D args bx oc r'):r=r':=by
 obtain⟨_,o,s1,g,a⟩:=h;obtain⟨_,u,p,c,b⟩:=k;rw[g]at c;cases c;cases o with
 |exit i=>exact a.elim
 |ret=>rw[a]at b;exact Xe b
 |normal=>
  obtain⟨v,st,j,t,l⟩:=a;obtain⟨w,st',d,q,e⟩:=b;rw[j]at d;cases d;rw[l]at e;exact Xe e
open Classical in
noncomputable def Dt(lib:Callee):Callee:=fun f args bx oc=>if h:f=19/\∃r,tq (da code lib) ia il args bx oc r then some (choose h.2)else none
def zbH{args:List PV}{bx:Na}{oc:List ya.Loc}{r:Ye}(h:tq (da code lib) ia il args bx oc r):Dt lib 19 args bx oc=some r:=by
 unfold Dt;rw[dif_pos ⟨rfl,r,h⟩];congr 1;exact zbP _ _ _ (uu (⟨r,h⟩:∃r,tq (da code lib) ia il args bx oc r)) h
def zbJ{Γ:ue}(c:Gb Tryz.prog Γ lib):Gb Tryz.prog Γ (Dt lib):=by
 intro f args bx oc e os bx' oc' a;unfold Dt at a;split at a
 case isFalse=>cases a
 rename_i h;obtain⟨rfl,hr⟩:=h;have b:=uu hr;rw[Xe a]at b;intro w Fr β vs d;exact N3 Tryz.checked.mixed ca (pv Tryz.checked.mixed ca Ns c) qU zau b d
def js(lib:Callee):Prop:=∀m:tc,m.Sn->lib 19 [.flat (.string (S (Eg Ra (eb 0) m)))] [] []=some ([.agg (oi m),.flat (.int .i64 0)],false,[],[])
def zbM(H:js lib)(m:tc)(a:m.Sn):da code lib 19 [.flat (.string (S (Eg Ra (eb 0) m)))] [] []=some ([.agg (oi m),.flat (.int .i64 0)],false,[],[]):=tf ha ca (H m a)
def zbI(L:Jo lib):js (Dt lib):=fun m a=>zbH (zbN L m a)
def Yp(enc qp:ba->ba)(m:tc):ba:=if Gg m=0 then Eg enc qp m else[]
def qO(m):Gg m<=7:=by unfold Gg;split<;>(try split)<;>omega
def qY{enc qp}(z:dj lib enc)(J:vq lib qp)(N:Ge lib)(U:Bu lib)(T:zu lib)(O:kc lib)(w:Qb lib)(V:Cu lib)(m)(hmZ:m.small):da code lib 21 [.agg (xc m)] [] []=some ([.flat (.string (S (Yp enc qp m))),.flat (.int .i64 (Gg m:Nat))],false,[],[]):=by
 have g:=pZ N U T O w V m hmZ;have hz0:(⟨#[]⟩:ByteArray)=S []:=rfl;unfold Yp;have hle:=qO m;by_cases C:Gg m=0
 ·rw[if_pos C]
  rw[C,n0]at g;rw[C];obtain⟨D,E,F,G,H⟩:=hmZ;have l1Z:=it z Ff m.fr ha D;have l2Z:=it z kg m.to ha E;have l3Z:=it z Sg m.su ha F;have l4Z:=vU J Nc m.te ha G;have l5Z:=vU J Vc m.ht ha H;have a:za=4294967296:=rfl;have hF:∀(u:Bool)(l f v:ba),v.length<=10000->f.length<=10000->Hf f=true->l.length+(bf enc f v).length<=za->da code lib 48 [.ptr 1 0,.flat (.string (S f)),.flat (.string (S v))] [(23,xc m),(111,bld u 1 l [])] [.cell 1 1]=some ([],false,[(23,xc m),(111,bld true 1 (l++bf enc f v) [])],[.cell 1 1]):=fun u l f v A K B h4Z=>N4 (r:=[]) z N O w rfl A K B h4Z (fun q h=>by cases h) (fun q h=>by cases h)
  have d:∀(l:ba)(L:List ba),1<=L.length->L.length<=100->l.length+(Wa L).length<=za->da code lib 49 [.ptr 1 0,.ga L.length (va L)] [(23,xc m),(111,bld true 1 l [])] [.cell 1 1]=some ([],false,[(23,xc m),(111,bld true 1 (l++Wa L) [])],[.cell 1 1]):=fun l L A K B=>FS_ (r:=[]) w L rfl aa B (fun q h=>by cases h) (fun q h=>by cases h) A
  have e:∀(l kind s:ba),kind.length<=100->s.length<=10000->l.length+(Wa (Zh qp kind s)).length<=za->da code lib 50 [.ptr 1 0,.flat (.string (S kind)),.flat (.string (S s))] [(23,xc m),(111,bld true 1 l [])] [.cell 1 1]=some ([],false,[(23,xc m),(111,bld true 1 (l++Wa (Zh qp kind s)) [])],[.cell 1 1]):=fun l kind s A K B=>zbQ (r:=[]) w J rfl A K B (fun q h=>by cases h) (fun q h=>by cases h)
  have P:(Wa [Np,Qp,[]]).length<=100:=ha
  have Q:(Wa [Ln]).length<=100:=ha
  unfold Eg;obtain⟨t,c⟩:∃x,bf enc Ff m.fr=x:=⟨_,rfl⟩;obtain⟨y,i⟩:∃x,bf enc kg m.to=x:=⟨_,rfl⟩;obtain⟨I,j⟩:∃x,bf enc Sg m.su=x:=⟨_,rfl⟩;obtain⟨R,k⟩:∃x,Wa (Zh qp Nc m.te)=x:=⟨_,rfl⟩;obtain⟨x5Z,n⟩:∃x,Wa (Zh qp Vc m.ht)=x:=⟨_,rfl⟩;obtain⟨M,o⟩:∃x,Wa [Np,Qp,[]]=x:=⟨_,rfl⟩;obtain⟨x7Z,p⟩:∃x,Wa [Ln]=x:=⟨_,rfl⟩;have W:=hF false [] Ff m.fr D ha bT (by rw[a];simp only[Ca];omega);rw[c,Ma]at W;rw[c]at l1Z;have X:=hF true t kg m.to E ha dT (by rw[a];omega);rw[i]at X l2Z;have Y:=hF true (t++y) Sg m.su F ha cT (by rw[a,Da];omega);rw[j]at Y l3Z;have Z:=d (t++y++I) [Np,Qp,[]] ha ha (by rw[a,Da,Da];omega);rw[o]at Z P;have f5Z:=e (t++y++I++M) Nc m.te ha G (by rw[a];simp only[Da];omega);rw[k]at f5Z l4Z;have f6Z:=e (t++y++I++M++R) Vc m.ht ha H (by rw[a];simp only[Da];omega);rw[n]at f6Z l5Z;have f7Z:=d (t++y++I++M++R++x5Z) [Ln] ha ha (by rw[a];simp only[Da];omega);rw[p]at f7Z Q;have f8Z:=tl (lib:=lib) (bx:=[(23,xc m),(111,bld true 1 (t++y++I++M++R++x5Z++x7Z) [])]) (oc:=[.cell 1 1]) (b:=1) (u:=true) (rest:=[]) w rfl ea;rw[c,i,j,k,n,o,p];clear hF d e c i j k n o p z J N U T O w V;simp only[xc,hy,va,Xb,Fe,sa,Ca,Zc,Nat.reduceAdd,Np,Qp,Ln,Ff,kg,Sg,Nc,Vc,Ac]at g W X Y Z f5Z f6Z f7Z f8Z⊢;refine ja wO (qa rfl) ?_;exact ta
 ·rw[if_neg C]
  simp only[xc]at g⊢;have a:=eq_false C;refine ja wO (qa rfl) ?_;exact ta
def zg8(l):(trimB l).length<=l.length:=by
 unfold trimB tk;rw[List.length_reverse];refine Vf (List.dropWhile_suffix _).length_le ?_;rw[List.length_reverse];exact(List.dropWhile_suffix _).length_le
def bu(v:ba)(h:v.length<=250):(Ki (Sc v)).length<=10000:=by
 have b:(Sc v).length<=(xf v).length:=zg8 _;have c:∀a:List ba,(be a).length<=Te a:=fun a=>by
  induction a with
  |nil=>simp[be]
  |cons w a g=>
   have e2:Te (w::a)=w.length+3+Te a:=by simp[Te]
   rw[Ot,e2];simp only[sa,Da];omega
 have d:=XW v h;have e:=c (Ed Ra v);unfold xf at b;unfold Ki;simp only[Da,sa,Ca];omega
def zdd(x:dj lib Ra)(A:vq lib (eb 0))(d:Ge lib)(y:Bu lib)(w:zu lib)(e:kc lib)(c:Qb lib)(z:Cu lib)
 (B:js lib) (b:Au lib) (a:Yg lib) (k:Ax lib) (l:Nj lib) (j:is lib) (m:tc) (r:m.Sn) (t:Gg m=0):
 da code lib 7 [.flat (.string (S (Eg Ra (eb 0) m)))] [] []=some ([.agg (xc m),.flat (.int .i64 0)],false,[],[]):=by
 obtain⟨K,L,M⟩:=zc9 t;have u:=r;obtain⟨D,E,F,R,T⟩:=u;have e1:=zbM B m r;have e2:=qY x A d y w e c z m ⟨aa,aa,aa,aa,aa⟩;unfold Yp at e2;rw[t,if_pos rfl]at e2;have o:=wE d e b a k c l j (Ki (Sc m.fr)) (bu _ D);have p:=wE d e b a k c l j (Ki (Sc m.to)) (bu _ E);have q:=wE d e b a k c l j (Ki (Sc m.su)) (bu _ F);have g1:=bu _ D;have C:=bu _ E;have g3:=bu _ F;have N:=aL m r;rw[K]at o;rw[L]at p;rw[M]at q;clear K L M x A d y w e c z B b a k l j r t;generalize Eg Ra (eb 0) m=s at*;obtain⟨v1Z,g⟩:∃v,Sc m.fr=v:=⟨_,rfl⟩;obtain⟨v2Z,h⟩:∃v,Sc m.to=v:=⟨_,rfl⟩;obtain⟨v3,i⟩:∃v,Sc m.su=v:=⟨_,rfl⟩;simp only[oi,Mp,Se,g,h,i,Fa,Ma]at e1 o p q g1 C g3;obtain⟨U,V,W,X,Y⟩:=m;clear g h i;dsimp only at e1 e2 o p q;have I:=dr (ri Nc);have J:=dr (ri Vc);have G:=fun n=>xp (n:=n) (ri Nc)
 have H:=fun n=>xp (n:=n) (ri Vc)
 generalize Ig (ri Nc)=Q at*;generalize Ig (ri Vc)=P at*;generalize vo Nc=Z at*;generalize vo Vc=t2 at*;simp only[Zm,Ig,Ff,kg,Sg,jp,Zk,ao]at e1;simp only[Ki,Fa,Ma,Ac]at o p q;simp only[Ki,Da,sa,Ca]at g1 C g3;have O:za=4294967296:=rfl;simp only[xc]at e2⊢;refine ja xO (qa rfl) ?_;exact Ys @BEq.rfl.{0} @lc @Bb @Mb @Zb zaL @Da.{0} @sa.{0} @Ca.{0}
def zdc(b:kc lib)(a:Qb lib){s:ba}{m:tc}{l:List Tok}(c:m.Sn)(ht:Wi m.ht=some l)
 (d:da code lib 7 [.flat (.string (S s))] [] []=some ([.agg (xc m),.flat (.int .i64 0)],false,[],[])):
 da code lib 24 [.flat (.int .i64 1),.flat (.string (S s))] [] []=some ([.tag 245 [.agg (xc m++[.ga l.length (qc l)])],.flat (.int .i64 0)],false,[],[]):=by
 have i:(⟨#[]⟩:ByteArray)=S []:=rfl;have h:=c.2.2.2.2;have e2:=jJ b a m.ht aa;rw[ht]at e2;dsimp only at e2;have e:=fun n=>gm (n:=n) l
 have g:=Vw l;clear b a c ht;simp only[xc,Fa,Ma]at d⊢;exact xa Ps
def uU{qp}(a:vq lib qp)(b:MB lib qp)(kind s:ba)(e:kind.length<=100)(hs:s.length<=10000):da code lib 31 [.flat (.string (S kind)),.flat (.string (S s))] [] []=some ([.flat (.string (S (Wa [jj++kind++ij,kj,[],qp s])))],false,[],[]):=by
 have h:da code lib 67 [.flat (.string (S s))] [] []=some ([.flat (.string (S (qp s)))],false,[],[]):=tf ha ca (b s hs);have g:=(a s hs).1;have d:(⟨#[]⟩:ByteArray)=S []:=rfl;have c:za=4294967296:=rfl;refine ja P0 (qa rfl) ?_;simp only[Wa,crlf,jj,ij,kj,Ac,Fa,Ma];exact ua @Da.{0}
set_option maxRecDepth 100000 in
def oY{enc qp}(b:dj lib enc)(a:ls lib enc)(h:vq lib qp)(p:MB lib qp)(m)(u:m.small):da code lib 16 [.agg (xc m)] [] []=some ([.flat (.string (S (Yp enc qp m))),.flat (.int .i64 (Gg m:Nat))],false,[],[]):=by
 have c:=nZ (lib:=lib) m u;have A:(⟨#[]⟩:ByteArray)=S []:=rfl;unfold Yp;have z:=qO m;by_cases i:Gg m=0
 ·rw[if_pos i]
  rw[i,n0]at c;rw[i];obtain⟨j,k,l,n,o⟩:=u;have B:=it b Ff m.fr ha j;have C:=it b kg m.to ha k;have D:=it b Sg m.su ha l;have E:=(h m.te n).1;have F:=(h m.ht o).1;have y:za=4294967296:=rfl;have q:=MJ b a Ff m.fr j ha;have r:=MJ b a kg m.to k ha;have t:=MJ b a Sg m.su l ha;have v:=uU h p Nc m.te ha n;have w:=uU h p Vc m.ht ha o;unfold Eg;simp only[bT,dT,cT,if_true]at q r t;obtain⟨G,d⟩:∃x,bf enc Ff m.fr=x:=⟨_,rfl⟩;obtain⟨H,e⟩:∃x,bf enc kg m.to=x:=⟨_,rfl⟩;obtain⟨I,g⟩:∃x,bf enc Sg m.su=x:=⟨_,rfl⟩;rw[d]at q B;rw[e]at r C;rw[g]at t D;rw[d,e,g];clear b a h p d e g;simp only[xc,Zh,Wa,crlf,jj,ij,kj,Yv,Np,Qp,Ln,Ff,kg,Sg,Nc,Vc,Ac,Fa,Ma]at c q r t v w⊢;refine ja LO (qa rfl) ?_;exact ua @Da.{0}
 ·rw[if_neg i]
  simp only[xc]at c⊢;have d:=eq_false i;refine ja LO (qa rfl) ?_;exact ta
structure wq (lib:Callee):Prop where
 b64:dj lib Ra
 qp:vq lib (eb 0)
 JU:ls lib Ra
 rq:MB lib (eb 0)
 idx:Ge lib
 last:Bu lib
 dP:zu lib
 pre:kc lib
 bld:Qb lib
 nest:Cu lib
 parse:js lib
 cut:Au lib
 Mk:Yg lib
 rep:Ax lib
 Tq:Nj lib
 dec:is lib
 shape:xq lib
 ind:uq lib
 nv:Ko lib
def yp(s:ba)(hs:s.length<=9223372036854775807):da code lib 15 [.flat (.string (S s))] [] []=some ([.flat (.string (S (s.take 200)))],false,[],[]):=by
 refine ja R0 (qa rfl) ?_;by_cases h:s.length<=200
 ·have e:min (s.length:Int) 200=s.length:=aa
  rw[xk h];exact ta
 ·have e:min (s.length:Int) 200=200:=aa
  have e2:(200:Int).toNat=200:=rfl;exact ta
def qZ{m:tc}(h:Gg m=0):∃l,Wi m.ht=some l:=by
 unfold Gg Bt at h;cases a:Wi m.ht with
 |some l=>exact⟨l,rfl⟩
 |none=>rw[a]at h;simp at h;split at h<;>cases h
def b6(L:wq lib)(f:Bool){rc bd:ba}(a:rc.length<=1000)(b:bd.length<=1000)(c:xh rc bd=0){l}(ht:nh bd=some l):
 da code lib 11 [.flat (.int .i64 2),.flat (.string (S (Xj f rc bd)))] [] []=some ([.flat (.string (S (aq l))),.flat (.int .i64 0)],false,[],[]):=by
 have hr:=yI L.idx L.pre L.bld L.shape L.Mk L.ind L.nv L.Tq f a b c ht;exact zd6 L.bld f (by have:=Wt ht;omega) (fun t h=>by have:=zg6 ht t h;omega) hr
def rA:ba:=[114]
def Em:ba:=[123,34,97,34,58,91,34,120,34,44,49,93,125]
def Yw:List ba:=[rA,Em,[97],[120]]
def yV:ba:=[123,34,34,58,91,34,34,44,49,93,125]
def f4:(nh Em).map (fun l=>(fq rA Em l,aq l))=some (Yw,yV):=Hb
def oE:xh rA Em=0:=Hb
set_option maxRecDepth 100000 in
def MX(L:wq lib):da code lib 14 [] [] []=some ([.flat (.bool true)],false,[],[]):=by
 obtain⟨l,a,b⟩:=qm f4;simp only[Prod.mk.injEq]at b;have e1:=XK (lib:=lib) false rA Em ha ha;rw[oE,if_pos rfl]at e1;have e2:=b6 L false (rc:=rA) (bd:=Em) ha ha oE a;have hr:=yI L.idx L.pre L.bld L.shape L.Mk L.ind L.nv L.Tq false (rc:=rA) (bd:=Em) ha ha oE a;have c:=Wt a;have e3:=pW (lib:=lib) false (by have:Em.length=13:=rfl;omega) hr;rw[b.1]at e3;rw[b.2]at e2;have e4:da code lib 13 [.ga 4 (va Yw),.ga 4 (va Yw)] [] []=some ([.flat (.bool true)],false,[],[]):=fg ca;clear hr b c a L;generalize Xj false rA Em=y at*;simp only[show Yw.length=4 from rfl]at e3;simp only[show va Yw=[.flat (.string (S [114])),.flat (.string (S [123,34,97,34,58,91,34,120,34,44,49,93,125])),.flat (.string (S [97])),.flat (.string (S [120]))]from rfl]at e3 e4;simp only[rA,Em,n0]at e1;unfold yV at e2;exact xa Q0
def Jd(f:Bool)(rc bd:ba):List PV:=[.flat (.bool f),.flat (.string (S rc)),.flat (.string (S bd))]
def tc.af(m:tc):tc:=⟨m.fr.take 200,m.to.take 200,m.su.take 200,m.te.take 200,m.ht.take 200⟩
def sQ(m:tc):m.af.Sn:=by
 unfold tc.af tc.Sn;simp only[Ue];omega
def M4(m:tc):m.af.small:=by
 unfold tc.af tc.small;simp only[Ue];omega
end ya
namespace Go.Proofs.YtglaihdcndcmkaaGreatDoor
def kX(w:World)(g o:Nat)(t:Qa):Prop:=w.cell? ⟨g,o,none⟩=some (.int .u8 t.kind.toNat)/\w.cell? ⟨g,o+1,none⟩=some (.string (S t.text))/\w.cell? ⟨g,o+2,none⟩=some (.int .i64 (t.fr:Nat))/\w.cell? ⟨g,o+3,none⟩=some (.int .i64 (t.to:Nat))
def SJ(w:World)(a:Option Addr)(L:List Qa):Prop:=L=[]\/∃g o,a=some ⟨g,o,none⟩/\g<w.heap.size/\∀k t,L[k]?=some t->kX w g (o+k* 4) t
def qd(l:List UInt8):List Value:=l.map fun b=>.int .u8 b.toNat
def Xm:(Tryz.prog.info? 5).map (fun i=>(i.zero,i.size,i.bytes))=some (some (.int .u8 0),1,1):=ca
theorem zdY{op:List UInt8}{D W:Nat}{c:UInt8}{i}(h:zg (op,D,W) c=some i):
 (∃x r,op=x::r/\(W=1\/W=3\/W=5)/\((x.toNat=123/\c.toNat=125)\/(x.toNat≠123/\c.toNat=93))/\i=(r,D,5))\/
 ((W=0\/W=1)/\(c.toNat=91\/c.toNat=123)/\i=(c::op,max D (op.length+1),if c.toNat=123 then 3 else 1))\/
 ((W=0\/W=1)/\(c.toNat=34\/c.toNat=48\/c.toNat=97)/\i=(op,max D (op.length+1),5))\/
 ((W=2\/W=3)/\c.toNat=34/\i=(op,D,4))\/(W=4/\c.toNat=58/\i=(op,D,0))\/∃x r,op=x::r/\W=5/\c.toNat=44/\i=(op,D,if x.toNat=123 then 2 else 0):=by
 have e:∀(a:UInt8)(b:UInt8),(a=b)=(a.toNat=b.toNat):=fun a b=>by rw[Yb]
 unfold zg at h;dsimp only at h;by_cases d:(W=1\/W=3\/W=5)/\(op≠[]/\c=(if op.head?=some 123 then 125 else 93))
 ·rw[if_pos d]at h
  obtain⟨d,n,j⟩:=d;cases op with
  |nil=>exact absurd rfl n
  |cons x r=>
   left;have:=Xe h;subst this;refine⟨x,r,rfl,d,?_,rfl⟩;simp only[List.head?_cons,Pb]at j;by_cases g:x=123
   ·rw[if_pos g]at j;exact .inl ⟨by rw[g];rfl,by rw[j];rfl⟩
   ·rw[if_neg g]at j;exact .inr ⟨fun k=>g (Yb.1 k),by rw[j];rfl⟩
 rw[if_neg d]at h;right;by_cases d:(W=0\/W=1)/\Jf c=true
 ·rw[if_pos d]at h
  have:=Xe h;subst this;left;have l:c=91\/c=123:=by simpa[Jf]using d.2
  refine⟨d.1,by rcases l with rfl|rfl<;>decide,?_⟩;rcases l with rfl|rfl<;>rfl
 rw[if_neg d]at h;right;by_cases d:(W=0\/W=1)/\Ch c=true
 ·rw[if_pos d]at h
  have:=Xe h;subst this;left;have l:c=34\/c=48\/c=97:=by simpa[Ch]using d.2
  exact⟨d.1,by rcases l with rfl|rfl|rfl<;>decide,rfl⟩
 rw[if_neg d]at h;right;by_cases d:(W=2\/W=3)/\c=34
 ·rw[if_pos d]at h
  have:=Xe h;subst this;exact .inl ⟨d.1,by rw[d.2];rfl,rfl⟩
 rw[if_neg d]at h;right;by_cases d:W=4/\c=58
 ·rw[if_pos d]at h
  have:=Xe h;subst this;exact .inl ⟨d.1,by rw[d.2];rfl,rfl⟩
 rw[if_neg d]at h;right;by_cases d:W=5/\c=44/\op≠[]
 ·rw[if_pos d]at h
  have:=Xe h;subst this;cases op with
  |nil=>exact absurd rfl d.2.2
  |cons x r=>
   refine⟨x,r,rfl,d.1,by rw[d.2.1];rfl,?_⟩;simp only[List.head?_cons,Pb];by_cases g:x=123
   ·subst g;rfl
   ·rw[if_neg g,if_neg (fun k=>g (Yb.1 k):¬x.toNat=123)]
 ·rw[if_neg d]at h;cases h
set_option maxRecDepth 100000 in
def zd3(L:List Qa)(a)(cap)(w)(hr:SJ w a L)(hLZ:L.length<=100000)(d:Nat)(hs:ai L ([],0,0)=some ([],d,5)):Calls Tryz.prog 282 #[.slice a L.length cap] w fun e w'=>e=.returned (.int .i64 (d:Nat))/\Below w.heap.size w w':=by
 have HRZ:=Lib.hid hr;have HSZ:=Lib.hid hs;clear hr hs
 go_enter Tryz.func282,Tryz.ntmps282
 repeat (first|go_values|go_skip|go_guarded|go_step|go_upon)
 go_loopw [3,4,5,13] (fun v dpZ wnZ i wr=>∃(k:Nat)(op:List UInt8)(D W:Nat),i=.int .i64 k/\dpZ=.int .i64 D/\wnZ=.int .i64 W/\k<=L.length/\op.length<=k/\D<=k+1/\wr.ownsRow w.heap.size 5 1 v op.length (qd op.reverse)/\Below w.heap.size w wr/\Hid (ai (L.drop k) (op,D,W)=some ([],d,5))/\Hid (op=[]->(v=.slice none 0 0/\W=0)\/W=5))
  (fun _ _ _ i _=>L.length - (intOf i).toNat)
 case atStart=>exact⟨0,[],0,0,rfl,rfl,rfl,Ab _,ea,aa,zB _ _ _ _,Below.refl _ _,Lib.hid (by rw[zf];exact HSZ.out),Lib.hid fun _=>.inl ⟨rfl,rfl⟩⟩
 case round=>
  obtain⟨k,op,D,W,rfl,rfl,rfl,hkZ,hop,hDZ,E,j,hst,P⟩:=hrel;by_cases fa:k<L.length
  ·obtain⟨g,o,rfl,hgZ,hrow⟩:=HRZ.out.resolve_left (by intro h;rw[h]at fa;simp at fa)
   have hcZ:=qe fa;obtain⟨t,ht⟩:∃t,L[k]=t:=⟨_,rfl⟩;rw[ht]at hcZ;obtain⟨c0Z,c1,c2,c3⟩:=hrow k t hcZ;have q0Z:=(j.cell (p:=⟨g,o+k* 4,none⟩) hgZ).trans c0Z;have q1Z:=(j.cell (p:=⟨g,o+k* 4+1,none⟩) hgZ).trans c1;have q2Z:=(j.cell (p:=⟨g,o+k* 4+2,none⟩) hgZ).trans c2;have q3Z:=(j.cell (p:=⟨g,o+k* 4+3,none⟩) hgZ).trans c3;have hgwr:=Ug hgZ j.size;have u:=j.size;have G:=hst.out;rw[qo hcZ]at G;cases hTZ:zg (op,D,W) t.kind with
   |none=>rw[hTZ]at G;cases G
   |some b=>
   rw[hTZ,Ja]at G;have hcs:=zdY hTZ;obtain⟨n,hnZ⟩:∃n,t.kind.toNat=n:=⟨_,rfl⟩;rw[hnZ]at q0Z hcs;have c6Z:Tryz.prog.cellsOf 203=4:=ca
   have c7Z:Tryz.prog.cellsOf 5=1:=ca
   have S:=Lib.hid hnZ;have H:=Lib.hid G;clear c0Z c1 c2 c3 hrow hcZ ht hTZ hnZ hst G;by_cases h0Z:op=[]
   ·subst h0Z
    have z:=Lib.hid E;clear E;rcases hcs with⟨x,r,h,_⟩|⟨I,K,rfl⟩|⟨I,K,rfl⟩|⟨I,K,rfl⟩|⟨I,K,rfl⟩|⟨x,r,h,_⟩
    ·cases h
    ·obtain⟨rfl,rfl⟩:=(P.out rfl).resolve_right aa
     clear I P hop;rcases K with rfl|rfl
     ·as_aux_lemma=>
       repeat (first|(at_builtin;refine Qi pa _ _ _ pa 5 _ 1 1 Tryz.underlying99 Xm pa aa w.heap.size _ _ _ _ pa (z.out.alloc _) [.int .u8 91] pa (by simp[Value.oneCell']) (by show Value.slice (some ⟨wr.heap.size+1,0,none⟩) 1 1=_;simp) ea ea La ?_;intro U C Y N c q l F;have B:=Lib.hid c;have A:=Lib.hid l;clear c l q)|go_values|go_skip|go_guarded|go_step|go_upon)
       exact⟨⟨k+1,[t.kind],max D 1,1,(by first|rfl|(simp;done)|(simp;omega)|(congr 1;omega)),(by first|rfl|(simp;done)|(simp;omega)|(congr 1;omega)),(by first|rfl|(simp;done)|(simp;omega)|(congr 1;omega)),fa,ea,aa,by rw[show qd [t.kind].reverse=[.int .u8 91]from by simp[qd,S.out]];exact B.out,(j.alloc u _).trans (A.out.mono aa),H,Lib.hid ea⟩,(by first|(simp[intOf];done)|(simp[intOf];omega))⟩
     ·as_aux_lemma=>
       repeat (first|(at_builtin;refine Qi pa _ _ _ pa 5 _ 1 1 Tryz.underlying99 Xm pa aa w.heap.size _ _ _ _ pa (z.out.alloc _) [.int .u8 123] pa (by simp[Value.oneCell']) (by show Value.slice (some ⟨wr.heap.size+1,0,none⟩) 1 1=_;simp) ea ea La ?_;intro U C Y N c q l F;have B:=Lib.hid c;have A:=Lib.hid l;clear c l q)|go_values|go_skip|go_guarded|go_step|go_upon)
       exact⟨⟨k+1,[t.kind],max D 1,3,(by first|rfl|(simp;done)|(simp;omega)|(congr 1;omega)),(by first|rfl|(simp;done)|(simp;omega)|(congr 1;omega)),(by first|rfl|(simp;done)|(simp;omega)|(congr 1;omega)),fa,ea,aa,by rw[show qd [t.kind].reverse=[.int .u8 123]from by simp[qd,S.out]];exact B.out,(j.alloc u _).trans (A.out.mono aa),H,Lib.hid ea⟩,(by first|(simp[intOf];done)|(simp[intOf];omega))⟩
    ·obtain⟨rfl,rfl⟩:=(P.out rfl).resolve_right aa
     clear I P hop;rcases K with rfl|rfl|rfl
     all_goals as_aux_lemma=>
      repeat (first|go_values|go_skip|go_guarded|go_step|go_upon)
      exact⟨⟨k+1,[],max D 1,5,(by first|rfl|(simp;done)|(simp;omega)|(congr 1;omega)),(by first|rfl|(simp;done)|(simp;omega)|(congr 1;omega)),(by first|rfl|(simp;done)|(simp;omega)|(congr 1;omega)),fa,ea,aa,z.out.alloc _,j.alloc u _,H,Lib.hid fun _=>.inr rfl⟩,(by first|(simp[intOf];done)|(simp[intOf];omega))⟩
    ·exfalso;rcases P.out rfl with⟨_,h⟩|h<;>omega
    ·exfalso;rcases P.out rfl with⟨_,h⟩|h<;>omega
    ·cases h
   ·obtain⟨x,r,X⟩:=List.exists_cons_of_ne_nil h0Z
    obtain⟨m,V⟩:∃m,r.length=m:=⟨_,rfl⟩;have T:op.length=m+1:=by rw[X,<-V];rfl
    have hrev:qd op.reverse=qd r.reverse++[.int .u8 x.toNat]:=by rw[X];simp[qd]
    rcases E.2 with⟨_,hn0⟩|⟨gsZ,Ya,cur,rfl,hgs,Q,hnc,hcm,hcsz,htk⟩
    ·omega
    have O:=E;rw[hrev,T]at O;have Z:=ownsRow_pop (by simp[qd];omega) O;have hgsl:=(Nh.1 Q).1;have hcx:wr.cell? ⟨gsZ,m,none⟩=some (.int .u8 x.toNat):=(O.cellAt m aa).trans (by rw[Af (by simp[qd];omega)];simp[qd,V]);obtain⟨y,J⟩:∃y,x.toNat=y:=⟨_,rfl⟩;rw[J]at hcx;have hcx5:=fun o=>(((Below.refl wr.heap.size wr).alloc (Aa _) o).cell (p:=⟨gsZ,m,none⟩) hgsl).trans hcx
    have hm31:m<=100000:=aa
    have hwr:IntKind.i64.wrap (m:Int)=(m:Int):=by rw[IntKind.wrap_i64];omega
    have hix1:(m:Int)<(m:Int)+1:=aa
    have hix2:(m:Int)<((m+1:Nat):Int):=aa
    have hix3:m<m+1:=aa
    have hix0:(0:Int)<=(m:Int):=aa
    have hn0:¬((m:Int)<0):=aa
    have z:=Lib.hid E;have HPZ:=Lib.hid Z;have b:=Lib.hid (And.intro X (And.intro V (And.intro T (And.intro J h0Z))));have M:=h0Z;rw[T]at hnc hop;rw[T];clear E O Z Q htk hrev X V P h0Z J hgs;rcases hcs with⟨x'Z,r',h,I,K,rfl⟩|⟨I,K,rfl⟩|⟨I,K,rfl⟩|⟨I,K,rfl⟩|⟨I,K,rfl⟩|⟨x'Z,r',h,I,K,rfl⟩
    ·obtain⟨rfl,rfl⟩:x'Z=x/\r'=r:=by rw[b.out.1]at h;cases h;exact⟨rfl,rfl⟩
     rw[b.out.2.2.2.1]at K;clear h M T;rcases K with⟨rfl,rfl⟩|⟨J,rfl⟩
     ·rcases I with rfl|rfl|rfl
      all_goals as_aux_lemma=>
       repeat (first|go_values|go_skip|go_guarded|go_step|go_upon)
       exact⟨⟨k+1,r',D,5,(by first|rfl|(simp;done)|(simp;omega)|(congr 1;omega)),(by first|rfl|(simp;done)|(simp;omega)|(congr 1;omega)),(by first|rfl|(simp;done)|(simp;omega)|(congr 1;omega)),fa,by have:=b.out.2.1;omega,aa,by rw[b.out.2.1];exact HPZ.out.alloc _,j.alloc u _,H,Lib.hid fun _=>.inr rfl⟩,(by first|(simp[intOf];done)|(simp[intOf];omega))⟩
     ·have R:((y:Int)==123)=false:=La
      clear J;rcases I with rfl|rfl|rfl
      all_goals as_aux_lemma=>
       repeat (first|go_values|go_skip|go_guarded|go_step|go_upon)
       exact⟨⟨k+1,r',D,5,(by first|rfl|(simp;done)|(simp;omega)|(congr 1;omega)),(by first|rfl|(simp;done)|(simp;omega)|(congr 1;omega)),(by first|rfl|(simp;done)|(simp;omega)|(congr 1;omega)),fa,by have:=b.out.2.1;omega,aa,by rw[b.out.2.1];exact HPZ.out.alloc _,j.alloc u _,H,Lib.hid fun _=>.inr rfl⟩,(by first|(simp[intOf];done)|(simp[intOf];omega))⟩
    ·clear M T
     by_cases J:y=123
     ·subst J
      rcases I with rfl|rfl<;>rcases K with rfl|rfl
      ·as_aux_lemma=>
        repeat (first|(at_builtin;refine Qi pa _ _ _ pa 5 _ 1 1 Tryz.underlying99 Xm pa aa w.heap.size _ _ _ _ pa (b.out.2.2.1▸z.out.alloc _) [.int .u8 91] pa (by simp[Value.oneCell']) (by show Value.slice (some ⟨wr.heap.size+1,0,none⟩) 1 1=_;simp) aa aa La ?_;intro U C Y N c q l F;have B:=Lib.hid c;have A:=Lib.hid l;clear c l q)|go_values|go_skip|go_guarded|go_step|go_upon)
        exact⟨⟨k+1,t.kind::op,max D (op.length+1),1,pa,by rw[b.out.2.2.1];first|rfl|(simp;done)|(simp;omega)|(congr 1;omega),(by first|rfl|(simp;done)|(simp;omega)|(congr 1;omega)),fa,by have:=b.out.2.2.1;simp;omega,by have:=b.out.2.2.1;omega,by have h:=B.out;rw[show qd (t.kind::op).reverse=qd op.reverse++[.int .u8 91]from by simp[qd,S.out],show(t.kind::op).length=m+1+1 from by rw[sa,b.out.2.2.1]];exact h,(j.alloc u _).trans (A.out.mono aa),H,Lib.hid ea⟩,(by first|(simp[intOf];done)|(simp[intOf];omega))⟩
      ·as_aux_lemma=>
        repeat (first|(at_builtin;refine Qi pa _ _ _ pa 5 _ 1 1 Tryz.underlying99 Xm pa aa w.heap.size _ _ _ _ pa (b.out.2.2.1▸z.out.alloc _) [.int .u8 123] pa (by simp[Value.oneCell']) (by show Value.slice (some ⟨wr.heap.size+1,0,none⟩) 1 1=_;simp) aa aa La ?_;intro U C Y N c q l F;have B:=Lib.hid c;have A:=Lib.hid l;clear c l q)|go_values|go_skip|go_guarded|go_step|go_upon)
        exact⟨⟨k+1,t.kind::op,max D (op.length+1),3,pa,by rw[b.out.2.2.1];first|rfl|(simp;done)|(simp;omega)|(congr 1;omega),(by first|rfl|(simp;done)|(simp;omega)|(congr 1;omega)),fa,by have:=b.out.2.2.1;simp;omega,by have:=b.out.2.2.1;omega,by have h:=B.out;rw[show qd (t.kind::op).reverse=qd op.reverse++[.int .u8 123]from by simp[qd,S.out],show(t.kind::op).length=m+1+1 from by rw[sa,b.out.2.2.1]];exact h,(j.alloc u _).trans (A.out.mono aa),H,Lib.hid ea⟩,(by first|(simp[intOf];done)|(simp[intOf];omega))⟩
      ·as_aux_lemma=>
        repeat (first|(at_builtin;refine Qi pa _ _ _ pa 5 _ 1 1 Tryz.underlying99 Xm pa aa w.heap.size _ _ _ _ pa (b.out.2.2.1▸z.out.alloc _) [.int .u8 91] pa (by simp[Value.oneCell']) (by show Value.slice (some ⟨wr.heap.size+1,0,none⟩) 1 1=_;simp) aa aa La ?_;intro U C Y N c q l F;have B:=Lib.hid c;have A:=Lib.hid l;clear c l q)|go_values|go_skip|go_guarded|go_step|go_upon)
        exact⟨⟨k+1,t.kind::op,max D (op.length+1),1,pa,by rw[b.out.2.2.1];first|rfl|(simp;done)|(simp;omega)|(congr 1;omega),(by first|rfl|(simp;done)|(simp;omega)|(congr 1;omega)),fa,by have:=b.out.2.2.1;simp;omega,by have:=b.out.2.2.1;omega,by have h:=B.out;rw[show qd (t.kind::op).reverse=qd op.reverse++[.int .u8 91]from by simp[qd,S.out],show(t.kind::op).length=m+1+1 from by rw[sa,b.out.2.2.1]];exact h,(j.alloc u _).trans (A.out.mono aa),H,Lib.hid ea⟩,(by first|(simp[intOf];done)|(simp[intOf];omega))⟩
      ·as_aux_lemma=>
        repeat (first|(at_builtin;refine Qi pa _ _ _ pa 5 _ 1 1 Tryz.underlying99 Xm pa aa w.heap.size _ _ _ _ pa (b.out.2.2.1▸z.out.alloc _) [.int .u8 123] pa (by simp[Value.oneCell']) (by show Value.slice (some ⟨wr.heap.size+1,0,none⟩) 1 1=_;simp) aa aa La ?_;intro U C Y N c q l F;have B:=Lib.hid c;have A:=Lib.hid l;clear c l q)|go_values|go_skip|go_guarded|go_step|go_upon)
        exact⟨⟨k+1,t.kind::op,max D (op.length+1),3,pa,by rw[b.out.2.2.1];first|rfl|(simp;done)|(simp;omega)|(congr 1;omega),(by first|rfl|(simp;done)|(simp;omega)|(congr 1;omega)),fa,by have:=b.out.2.2.1;simp;omega,by have:=b.out.2.2.1;omega,by have h:=B.out;rw[show qd (t.kind::op).reverse=qd op.reverse++[.int .u8 123]from by simp[qd,S.out],show(t.kind::op).length=m+1+1 from by rw[sa,b.out.2.2.1]];exact h,(j.alloc u _).trans (A.out.mono aa),H,Lib.hid ea⟩,(by first|(simp[intOf];done)|(simp[intOf];omega))⟩
     ·have R:((y:Int)==123)=false:=La
      clear J;rcases I with rfl|rfl<;>rcases K with rfl|rfl
      ·as_aux_lemma=>
        repeat (first|(at_builtin;refine Qi pa _ _ _ pa 5 _ 1 1 Tryz.underlying99 Xm pa aa w.heap.size _ _ _ _ pa (b.out.2.2.1▸z.out.alloc _) [.int .u8 91] pa (by simp[Value.oneCell']) (by show Value.slice (some ⟨wr.heap.size+1,0,none⟩) 1 1=_;simp) aa aa La ?_;intro U C Y N c q l F;have B:=Lib.hid c;have A:=Lib.hid l;clear c l q)|go_values|go_skip|go_guarded|go_step|go_upon)
        exact⟨⟨k+1,t.kind::op,max D (op.length+1),1,pa,by rw[b.out.2.2.1];first|rfl|(simp;done)|(simp;omega)|(congr 1;omega),(by first|rfl|(simp;done)|(simp;omega)|(congr 1;omega)),fa,by have:=b.out.2.2.1;simp;omega,by have:=b.out.2.2.1;omega,by have h:=B.out;rw[show qd (t.kind::op).reverse=qd op.reverse++[.int .u8 91]from by simp[qd,S.out],show(t.kind::op).length=m+1+1 from by rw[sa,b.out.2.2.1]];exact h,(j.alloc u _).trans (A.out.mono aa),H,Lib.hid ea⟩,(by first|(simp[intOf];done)|(simp[intOf];omega))⟩
      ·as_aux_lemma=>
        repeat (first|(at_builtin;refine Qi pa _ _ _ pa 5 _ 1 1 Tryz.underlying99 Xm pa aa w.heap.size _ _ _ _ pa (b.out.2.2.1▸z.out.alloc _) [.int .u8 123] pa (by simp[Value.oneCell']) (by show Value.slice (some ⟨wr.heap.size+1,0,none⟩) 1 1=_;simp) aa aa La ?_;intro U C Y N c q l F;have B:=Lib.hid c;have A:=Lib.hid l;clear c l q)|go_values|go_skip|go_guarded|go_step|go_upon)
        exact⟨⟨k+1,t.kind::op,max D (op.length+1),3,pa,by rw[b.out.2.2.1];first|rfl|(simp;done)|(simp;omega)|(congr 1;omega),(by first|rfl|(simp;done)|(simp;omega)|(congr 1;omega)),fa,by have:=b.out.2.2.1;simp;omega,by have:=b.out.2.2.1;omega,by have h:=B.out;rw[show qd (t.kind::op).reverse=qd op.reverse++[.int .u8 123]from by simp[qd,S.out],show(t.kind::op).length=m+1+1 from by rw[sa,b.out.2.2.1]];exact h,(j.alloc u _).trans (A.out.mono aa),H,Lib.hid ea⟩,(by first|(simp[intOf];done)|(simp[intOf];omega))⟩
      ·as_aux_lemma=>
        repeat (first|(at_builtin;refine Qi pa _ _ _ pa 5 _ 1 1 Tryz.underlying99 Xm pa aa w.heap.size _ _ _ _ pa (b.out.2.2.1▸z.out.alloc _) [.int .u8 91] pa (by simp[Value.oneCell']) (by show Value.slice (some ⟨wr.heap.size+1,0,none⟩) 1 1=_;simp) aa aa La ?_;intro U C Y N c q l F;have B:=Lib.hid c;have A:=Lib.hid l;clear c l q)|go_values|go_skip|go_guarded|go_step|go_upon)
        exact⟨⟨k+1,t.kind::op,max D (op.length+1),1,pa,by rw[b.out.2.2.1];first|rfl|(simp;done)|(simp;omega)|(congr 1;omega),(by first|rfl|(simp;done)|(simp;omega)|(congr 1;omega)),fa,by have:=b.out.2.2.1;simp;omega,by have:=b.out.2.2.1;omega,by have h:=B.out;rw[show qd (t.kind::op).reverse=qd op.reverse++[.int .u8 91]from by simp[qd,S.out],show(t.kind::op).length=m+1+1 from by rw[sa,b.out.2.2.1]];exact h,(j.alloc u _).trans (A.out.mono aa),H,Lib.hid ea⟩,(by first|(simp[intOf];done)|(simp[intOf];omega))⟩
      ·as_aux_lemma=>
        repeat (first|(at_builtin;refine Qi pa _ _ _ pa 5 _ 1 1 Tryz.underlying99 Xm pa aa w.heap.size _ _ _ _ pa (b.out.2.2.1▸z.out.alloc _) [.int .u8 123] pa (by simp[Value.oneCell']) (by show Value.slice (some ⟨wr.heap.size+1,0,none⟩) 1 1=_;simp) aa aa La ?_;intro U C Y N c q l F;have B:=Lib.hid c;have A:=Lib.hid l;clear c l q)|go_values|go_skip|go_guarded|go_step|go_upon)
        exact⟨⟨k+1,t.kind::op,max D (op.length+1),3,pa,by rw[b.out.2.2.1];first|rfl|(simp;done)|(simp;omega)|(congr 1;omega),(by first|rfl|(simp;done)|(simp;omega)|(congr 1;omega)),fa,by have:=b.out.2.2.1;simp;omega,by have:=b.out.2.2.1;omega,by have h:=B.out;rw[show qd (t.kind::op).reverse=qd op.reverse++[.int .u8 123]from by simp[qd,S.out],show(t.kind::op).length=m+1+1 from by rw[sa,b.out.2.2.1]];exact h,(j.alloc u _).trans (A.out.mono aa),H,Lib.hid ea⟩,(by first|(simp[intOf];done)|(simp[intOf];omega))⟩
    ·clear M T
     by_cases J:y=123
     ·subst J
      rcases I with rfl|rfl<;>rcases K with rfl|rfl|rfl
      all_goals as_aux_lemma=>
       repeat (first|go_values|go_skip|go_guarded|go_step|go_upon)
       exact⟨⟨k+1,op,max D (op.length+1),5,pa,by rw[b.out.2.2.1];first|rfl|(simp;done)|(simp;omega)|(congr 1;omega),(by first|rfl|(simp;done)|(simp;omega)|(congr 1;omega)),fa,by have:=b.out.2.2.1;omega,by have:=b.out.2.2.1;omega,by rw[b.out.2.2.1];exact b.out.2.2.1▸z.out.alloc _,j.alloc u _,H,Lib.hid fun _=>.inr rfl⟩,(by first|(simp[intOf];done)|(simp[intOf];omega))⟩
     ·have R:((y:Int)==123)=false:=La
      clear J;rcases I with rfl|rfl<;>rcases K with rfl|rfl|rfl
      all_goals as_aux_lemma=>
       repeat (first|go_values|go_skip|go_guarded|go_step|go_upon)
       exact⟨⟨k+1,op,max D (op.length+1),5,pa,by rw[b.out.2.2.1];first|rfl|(simp;done)|(simp;omega)|(congr 1;omega),(by first|rfl|(simp;done)|(simp;omega)|(congr 1;omega)),fa,by have:=b.out.2.2.1;omega,by have:=b.out.2.2.1;omega,by rw[b.out.2.2.1];exact b.out.2.2.1▸z.out.alloc _,j.alloc u _,H,Lib.hid fun _=>.inr rfl⟩,(by first|(simp[intOf];done)|(simp[intOf];omega))⟩
    ·clear M T
     subst K;by_cases J:y=123
     ·subst J
      rcases I with rfl|rfl
      all_goals as_aux_lemma=>
       repeat (first|go_values|go_skip|go_guarded|go_step|go_upon)
       exact⟨⟨k+1,op,D,4,(by first|rfl|(simp;done)|(simp;omega)|(congr 1;omega)),(by first|rfl|(simp;done)|(simp;omega)|(congr 1;omega)),(by first|rfl|(simp;done)|(simp;omega)|(congr 1;omega)),fa,by have:=b.out.2.2.1;omega,aa,by rw[b.out.2.2.1];exact b.out.2.2.1▸z.out.alloc _,j.alloc u _,H,Lib.hid fun h=>absurd h b.out.2.2.2.2⟩,(by first|(simp[intOf];done)|(simp[intOf];omega))⟩
     ·have R:((y:Int)==123)=false:=La
      clear J;rcases I with rfl|rfl
      all_goals as_aux_lemma=>
       repeat (first|go_values|go_skip|go_guarded|go_step|go_upon)
       exact⟨⟨k+1,op,D,4,(by first|rfl|(simp;done)|(simp;omega)|(congr 1;omega)),(by first|rfl|(simp;done)|(simp;omega)|(congr 1;omega)),(by first|rfl|(simp;done)|(simp;omega)|(congr 1;omega)),fa,by have:=b.out.2.2.1;omega,aa,by rw[b.out.2.2.1];exact b.out.2.2.1▸z.out.alloc _,j.alloc u _,H,Lib.hid fun h=>absurd h b.out.2.2.2.2⟩,(by first|(simp[intOf];done)|(simp[intOf];omega))⟩
    ·clear M T
     subst I K;by_cases J:y=123
     ·subst J
      as_aux_lemma=>
       repeat (first|go_values|go_skip|go_guarded|go_step|go_upon)
       exact⟨⟨k+1,op,D,0,(by first|rfl|(simp;done)|(simp;omega)|(congr 1;omega)),(by first|rfl|(simp;done)|(simp;omega)|(congr 1;omega)),(by first|rfl|(simp;done)|(simp;omega)|(congr 1;omega)),fa,by have:=b.out.2.2.1;omega,aa,by rw[b.out.2.2.1];exact b.out.2.2.1▸z.out.alloc _,j.alloc u _,H,Lib.hid fun h=>absurd h b.out.2.2.2.2⟩,(by first|(simp[intOf];done)|(simp[intOf];omega))⟩
     ·have R:((y:Int)==123)=false:=La
      clear J
      as_aux_lemma=>
       repeat (first|go_values|go_skip|go_guarded|go_step|go_upon)
       exact⟨⟨k+1,op,D,0,(by first|rfl|(simp;done)|(simp;omega)|(congr 1;omega)),(by first|rfl|(simp;done)|(simp;omega)|(congr 1;omega)),(by first|rfl|(simp;done)|(simp;omega)|(congr 1;omega)),fa,by have:=b.out.2.2.1;omega,aa,by rw[b.out.2.2.1];exact b.out.2.2.1▸z.out.alloc _,j.alloc u _,H,Lib.hid fun h=>absurd h b.out.2.2.2.2⟩,(by first|(simp[intOf];done)|(simp[intOf];omega))⟩
    ·obtain⟨rfl,rfl⟩:x'Z=x/\r'=r:=by rw[b.out.1]at h;cases h;exact⟨rfl,rfl⟩
     rw[b.out.2.2.2.1]at H;clear h M T;subst I K;by_cases J:y=123
     ·subst J
      as_aux_lemma=>
       repeat (first|go_values|go_skip|go_guarded|go_step|go_upon)
       exact⟨⟨k+1,op,D,2,(by first|rfl|(simp;done)|(simp;omega)|(congr 1;omega)),(by first|rfl|(simp;done)|(simp;omega)|(congr 1;omega)),(by first|rfl|(simp;done)|(simp;omega)|(congr 1;omega)),fa,by have:=b.out.2.2.1;omega,aa,by rw[b.out.2.2.1];exact b.out.2.2.1▸z.out.alloc _,j.alloc u _,H,Lib.hid fun h=>absurd h b.out.2.2.2.2⟩,(by first|(simp[intOf];done)|(simp[intOf];omega))⟩
     ·have R:((y:Int)==123)=false:=La
      rw[if_neg J]at H;clear J
      as_aux_lemma=>
       repeat (first|go_values|go_skip|go_guarded|go_step|go_upon)
       exact⟨⟨k+1,op,D,0,(by first|rfl|(simp;done)|(simp;omega)|(congr 1;omega)),(by first|rfl|(simp;done)|(simp;omega)|(congr 1;omega)),(by first|rfl|(simp;done)|(simp;omega)|(congr 1;omega)),fa,by have:=b.out.2.2.1;omega,aa,by rw[b.out.2.2.1];exact b.out.2.2.1▸z.out.alloc _,j.alloc u _,H,Lib.hid fun h=>absurd h b.out.2.2.2.2⟩,(by first|(simp[intOf];done)|(simp[intOf];omega))⟩
  ·obtain rfl:k=L.length:=aa
   have b:=hst.out;rw[pq]at b;have b:(op,D,W)=([],d,5):=Xe b;cases b;rcases E.2 with⟨rfl,_⟩|⟨gsZ,Ya,cur,rfl,hgs,Q,hnc,hcm,hcsz,htk⟩
   ·clear E
    repeat (first|go_values|go_skip|go_guarded|go_step|go_upon)
    go_ret;exact⟨rfl,j⟩
   ·clear E Q htk
    repeat (first|go_values|go_skip|go_guarded|go_step|go_upon)
    go_ret;exact⟨rfl,j⟩
end Go.Proofs.YtglaihdcndcmkaaGreatDoor
namespace ya
def zS(n:Nat)(w):Calls Tryz.prog 249 #[.int .i32 (n:Nat)] w (Yf (.int .u8 (Be n:Nat)) w):=by
 rcases BV n with(rfl|rfl|rfl|rfl|rfl|rfl|rfl)|⟨c,c1,c2,c3,c4,c5,a,b⟩
 iterate 7
  ·go_enter Tryz.func249,Tryz.ntmps249
   go_wp2;go_ret;exact⟨rfl,rfl⟩
 have e:∀m:Nat,n≠m->((n:Int)==(m:Int))=false:=fun m h=>by simp;omega
 have c1:=e 34 c1;have c2:=e 92 c2;have c3:=e 8 c3;have c4:=e 12 c4;have c5:=e 10 c5;have a:=e 13 a;have b:=e 9 b;rw[c];clear e c
 go_enter Tryz.func249,Tryz.ntmps249
 go_wp2;go_ret;exact⟨rfl,rfl⟩
def eZ{P:Program}{Γ:ue}{cf:Callee}(h:Gb P Γ cf){f}(l:f≠hb){args}{a b}{os}{bx}{oc}(j:cf f args [] []=some ([.flat a,.flat b],os,bx,oc)){w}{Fr}{vs}(i:Γ.G w)(hr:ra w Fr [] args vs):
 Calls P f vs.toArray w fun e w'=>e=.returned (.tuple #[a,b])/\Below w.heap.size w w':=by
 have d:=h f args [] [] _ _ _ _ j w Fr [] vs ⟨i,hr,IA w Fr,(fun L h=>by cases h),fun g _=>Tl⟩;unfold Enters at d;rw[if_neg l]at d;refine d.2.mono ?_;rintro e w' ⟨v0,Fr',β',rfl,c⟩;have:=c.rd;simp only[Rc,Rd,ra]at this;obtain⟨vs,rfl,o,r1,rfl,⟨rfl,_⟩,p,r2,rfl,⟨rfl,_⟩,rfl⟩:=this;exact⟨rfl,c.rel.os,c.rel.tape,c.rel.output,c.le.size,fun k n=>(c.rel.old k n Tl).1⟩
def Nn:ByteArray:=⟨#[34,92,8,12,10,13,9]⟩
def F3:∀k<7,∃c:UInt8,Nn.data.toList[k]?=some c/\c.toNat<128/\Be c.toNat<256/\dm (UInt8.ofNat (Be c.toNat))=some c.toNat:=by
 intro k a;have:k=0\/k=1\/k=2\/k=3\/k=4\/k=5\/k=6:=aa
 rcases this with rfl|rfl|rfl|rfl|rfl|rfl|rfl<;>exact⟨_,rfl,ha,ha,ha⟩
def Mj(w:World)(p n:Nat):World:=(w.iter Nn p).drewN n
def D3{P:Program}(w:World)(p n:Nat)(ty:TypeId)(h:p<7){c:UInt8}(e:Nn.data.toList[p]?=some c)(d:c.toNat<128):
 (Instr.next (.pointer (some ⟨w.heap.size,0,none⟩)) true ty).run P (Mj w p n)=.ok (.tuple #[.bool true,.int .i64 p,.int .i32 (c.toNat:Nat)]) (Mj w (p+1) n):=by
 have b:p<Nn.size:=h;have a:Nn[p]'b=c:=by
  have:=(qg e).2;exact this
 have:=run_next_ascii (P:=P) (w.drewN n) Nn p ty b (by rw[a];exact d);rw[a]at this;exact this
def C3{P:Program}(w:World)(n:Nat)(ty:TypeId):(Instr.next (.pointer (some ⟨w.heap.size,0,none⟩)) true ty).run P (Mj w 7 n)=.ok (.tuple #[.bool false]) (Mj w 7 n):=
 run_next_end (P:=P) (w.drewN n) Nn 7 ty ha
def Vs(w:World)(p n:Nat):Below w.heap.size w (Mj w p n):=⟨rfl,rfl,rfl,by show w.heap.size<=(w.heap.push _).size;rw[Array.size_push];omega,fun i a=>by
 show(w.heap.push _)[i]?=_;rw[Array.getElem?_push_lt a,hu a]⟩
def eE{w:World}{p n m:Nat}:(Mj w p n).drewN m=Mj w p (n+m):=World.drewN_drewN ..
def eQ(w:World)(p n:Nat):(Mj w p n).iterPos w.heap.size=p:=World.iterPos_iter (w.drewN n) Nn p
theorem G3{Γ:ue}{lib:Callee}(R:Gb Tryz.prog Γ (da code lib))(N:kc lib)(s:ba)(t:ByteArray)(ht:S s=t)(k:Nat)(v:Nat×Nat)(hs:s.length<=100000)(z:s[k]?=some 92)(b:uf (s.drop k)=some v)(P:v.2<=6)(w)(J:Γ.G w):
 Calls Tryz.prog 285 #[.string t,.int .i64 (k:Nat)] w fun e w'=>e=.returned (.tuple #[.int .i32 (v.1:Nat),.int .i64 (v.2:Nat),.bool true])/\Below w.heap.size w w':=by
 have H:t.size=s.length:=by rw[<-ht,Ua]
 have C:=(qg z).1;obtain⟨d,r,L⟩:∃d r,s.drop k=92::d::r:=by
  rw[Qd C,(qg z).2]at b⊢;cases hr:s.drop (k+1)with
  |nil=>rw[hr]at b;cases b
  |cons d r=>exact⟨d,r,rfl⟩
 have T:=gg (Pm L);have U:k+1<t.size:=aa
 have i:∀x:UInt8,d=x->t[k+1]'U=x:=by
  have h:=Yh (Pm L);have:=(qg h).2;subst ht;exact fun x y=>this.trans y
 have M:∀u w',se (s.drop k)=some u->Γ.G w'->Calls Tryz.prog 291 #[.string t,.int .i64 (k:Nat)] w' fun e W=>e=.returned (.tuple #[.int .i32 (u:Nat),.bool true])/\Below w'.heap.size w' W:=fun u w' h Q=>by
  subst ht;exact eZ (Fr:=fun _=>0) (vs:=[.string (S s),.int .i64 (k:Nat)]) R ha (zhr N s k aa aa h) Q (by simp[ra,Rd,yc])
 rw[L]at b M;unfold uf Rm at b;simp only[if_true,yk,Bo,Ja]at b;have hk2:(k:Int)+1<(t.size:Int):=aa
 have hw1:RowKit.wrap64 ((k:Int)+1)=(k:Int)+1:=by unfold RowKit.wrap64;omega
 clear L T z ht hs;by_cases q:d=47
 ·subst q
  cases b;have hDZ:t[k+1]=47:=i _ rfl;clear M R J i N C H P
  go_enter Tryz.func285,Tryz.ntmps285
  repeat (first|go_values|go_skip|go_guarded|go_step|go_upon)
  go_ret3
  exact⟨rfl,Below.refl _ _⟩
 have hne:((d.toNat:Int)==47)=false:=by
  have:¬d.toNat=(47:UInt8).toNat:=fun h=>q (Yb.1 h)
  have h:(47:UInt8).toNat=47:=rfl;rw[h]at this;simp;omega
 have hVZ:∀c:UInt8,Be c.toNat=d.toNat->dm (UInt8.ofNat (Be c.toNat))=some c.toNat->v=(c.toNat,2):=fun c h1Z Y=>by
  rw[h1Z,UInt8.ofNat_toNat]at Y;rw[Y]at b;exact(Xe b).symm
 have Z:dm d=none->∃a,se (92::d::r)=some a/\v=(a,6)/\(a<55296\/57343<a):=fun h=>by
  rw[h]at b;dsimp only at b;split at b
  ·cases b
  ·rename_i a K
   split at b
   ·split at b
    ·split at b
     ·cases b
     ·split at b
      ·have:=Xe b
       subst this;dsimp only at P;omega
      ·cases b
    ·cases b
   ·exact⟨a,K,(Xe b).symm,aa⟩
 have hDZ:t[k+1]=d:=i _ rfl;clear i;have D:∀p n,Γ.G (Mj w p n):=fun p n=>Γ.Gf _ _ J fun g hgZ=>(Vs w p n).block g (Γ.lt _ J g hgZ)
 have I:=Lib.hid (And.intro hVZ (And.intro Z (And.intro D M)));have H2Z:=Lib.hid q;clear hVZ Z D M b P R J N C H q
 go_enter Tryz.func285,Tryz.ntmps285
 repeat (first|go_values|go_skip|go_guarded|go_step|go_upon)
 go_loopw [8] (fun _ w'=>∃p n,p<=7/\w'=Mj w p n/\Hid (∀j<p,∀c,Nn.data.toList[j]?=some c->Be c.toNat≠d.toNat)) (fun _ w'=>7 - w'.iterPos w.heap.size)
 case atStart=>exact⟨0,0,aa,rfl,Lib.hid fun j hjZ=>by omega⟩
 case round=>
  obtain⟨p,n,hpZ,rfl,l⟩:=hrel;by_cases G:p<7
  ·obtain⟨c,z,B,E,F⟩:=F3 p G
   have V:∀ty,(Instr.next (.pointer (some ⟨w.heap.size,0,none⟩)) true ty).run Tryz.prog (Mj w p n)=_:=fun ty=>D3 w p n ty G z B
   have X:=Lib.hid (And.intro z (And.intro B (And.intro E F)));clear z B E F;by_cases o:Be c.toNat=d.toNat
   ·have heZ:((Be c.toNat:Int)==(d.toNat:Int))=true:=by rw[o];simp
    have O:=Lib.hid o;clear o
    repeat (first|go_values|go_skip|go_guarded|go_step|go_upon)
    go_quiet (exact mV (zS c.toNat))
    repeat (first|go_values|go_skip|go_guarded|go_step|go_upon)
    go_ret3
    rw[I.out.1 c O.out X.out.2.2.2];exact⟨rfl,eE▸Vs w (p+1) (n+nq)⟩
   ·have heZ:((Be c.toNat:Int)==(d.toNat:Int))=false:=La
    have O:=Lib.hid o;clear o
    repeat (first|go_values|go_skip|go_guarded|go_step|go_upon)
    go_quiet (exact mV (zS c.toNat))
    repeat (first|go_values|go_skip|go_guarded|go_step|go_upon)
    refine⟨⟨p+1,n+nq,aa,eE,Lib.hid fun j hjZ c' A=>?_⟩,?_⟩
    ·rcases Oh j p with h|h
     ·exact l.out j h c' A
     ·obtain rfl:j=p:=aa
      rw[X.out.1]at A;cases A;exact O.out
    ·rw[eE,eQ,eQ];omega
  ·obtain rfl:p=7:=aa
   have V:∀ty,(Instr.next (.pointer (some ⟨w.heap.size,0,none⟩)) true ty).run Tryz.prog (Mj w 7 n)=_:=fun ty=>C3 w n ty
   have B:dm d=none:=by
    have y:=l.out;rcases QI d with(rfl|rfl|rfl|rfl|rfl|rfl|rfl|rfl)|⟨h,_⟩
    ·exact absurd rfl (y 0 aa 34 rfl)
    ·exact absurd rfl (y 1 aa 92 rfl)
    ·exact absurd rfl (y 2 aa 8 rfl)
    ·exact absurd rfl (y 3 aa 12 rfl)
    ·exact absurd rfl (y 4 aa 10 rfl)
    ·exact absurd rfl (y 5 aa 13 rfl)
    ·exact absurd rfl (y 6 aa 9 rfl)
    ·exact absurd rfl H2Z.out
    ·exact h
   obtain⟨a,K,E,o⟩:=I.out.2.1 B;have O:=Lib.hid (I.out.2.2.2 a (Mj w 7 n) K (I.out.2.2.1 7 n));have X:=Lib.hid E;clear K E B l;rcases o with o|o
   ·have k1Z:¬(56320:Int)<=(a:Int):=aa
    have k2Z:¬(55296:Int)<=(a:Int):=aa
    clear o
    repeat (first|go_values|go_skip|go_guarded|go_step|go_upon)
    refine O.out.mono ?_;rintro e w2Z ⟨rfl,A⟩;have F:=Lib.hid A;clear A;dsimp only
    repeat (first|go_values|go_skip|go_guarded|go_step|go_upon)
    go_ret3
    rw[X.out];exact⟨rfl,(Vs w 7 n).trans (F.out.mono (Vs w 7 n).size)⟩
   ·have k1Z:(56320:Int)<=(a:Int):=aa
    have k2Z:(55296:Int)<=(a:Int):=aa
    have k3Z:¬(a:Int)<57344:=aa
    have k4Z:¬(a:Int)<56320:=aa
    clear o
    repeat (first|go_values|go_skip|go_guarded|go_step|go_upon)
    refine O.out.mono ?_;rintro e w2Z ⟨rfl,A⟩;have F:=Lib.hid A;clear A;dsimp only
    repeat (first|go_values|go_skip|go_guarded|go_step|go_upon)
    go_ret3
    rw[X.out];exact⟨rfl,(Vs w 7 n).trans (F.out.mono (Vs w 7 n).size)⟩
def Ut(t:List (FuncId×Callee)):Callee:=fun f=>match t.lookup f with
 |some c=>c f
 |none=>fun _ _ _=>none
def gW{t}{f}{c}(h:t.lookup f=some c):Ut t f=c f:=by grind [Ut]
def hW{P}{Γ}{t}(h:∀p∈t,Gb P Γ p.2):Gb P Γ (Ut t):=fun f args bx oc b os bx' oc' a=>by
 unfold Ut at a;cases d:t.lookup f with
 |some c=>rw[d]at a;exact h _ (gH d) f args bx oc b os bx' oc' a
 |none=>grind
structure ve where
 pre:List Value
 row:Option (List Value × Nat × Nat × TypeId)
 ex:List Value
def ve.vs(R:ve)(v:Value):List Value:=match R.row with
 |none=>R.pre++R.ex
 |some _=>R.pre++v::R.ex
def ve.si(R:ve):List PV:=match R.row with
 |none=>(R.pre++R.ex).map .flat
 |some (c,n,_,_)=>R.pre.map .flat++.ga n (c.map .flat)::R.ex.map .flat
def eB:List Value->Value
 |[v]=>v
 |l=>.tuple l.toArray
def gi(P:Program)(Γ:ue)(f:FuncId)(spec:List Value->Option ve):Prop:=Uj P f=true/\∀vs R,spec vs=some R->((∀v∈R.pre++R.ex,yc v=true)/\∀c n z ty,R.row=some (c,n,z,ty)->∀v∈c,yc v=true/\v.oneCell'=true)/\
 ∀w,Γ.G w->Calls P f vs.toArray w fun e w'=>∃v,e=.returned (eB (R.vs v))/\(∀c n z ty,R.row=some (c,n,z,ty)->w'.ownsRow w.heap.size ty z v n c)/\Below w.heap.size w w'
def Kh(k:FuncId)(spec:List Value->Option ve):ya.Callee:=fun f args bx oc=>match bx,oc with
 |[],[]=>if f=k then((Ap args).bind spec).map fun R=>(R.si,false,[],[])else none
 |_,_=>none
def vl{k}{spec}{args}{vs}{R}(a:Ap args=some vs)(b:spec vs=some R):Kh k spec k args [] []=some (R.si,false,[],[]):=by
 grind [Kh]
theorem HA{w}{Fr}{β}:∀{l},(∀v∈l,yc v=true)->ra w Fr β (l.map .flat) l
 |[],_=>by rfl
 |v::l,h=>by
  simp only[Xb,ra];exact⟨v,l,rfl,by grind [Rd],HA fun x a=>h x (rn _ a)⟩
theorem TU{w}{Fr}{β}:∀{a b}{u v},ra w Fr β a u->ra w Fr β b v->ra w Fr β (a++b) (u++v)
 |[],b,u,v,h,k=>by grind [ra]
 |p::a,b,u,v,h,k=>by
  simp only[ra]at h;obtain⟨x,r,rfl,c,d⟩:=h;simp only[Fa,ra];exact⟨x,_,rfl,c,TU d k⟩
def SU{w}{Fr}{β}{ps}{vs}(h:ra w Fr β ps vs):Rd w Fr β (Rc ps) (eB vs):=by
 match ps,h with
 |[],h=>
  grind [ra,Rc,eB,Rd]
 |[p],h=>
  simp only[ra]at h;obtain⟨x,r,rfl,a,rfl⟩:=h;exact a
 |p::q::l,h=>
  have b:=h;simp only[ra]at h;obtain⟨x,r,rfl,a,y,r',rfl,c⟩:=h;show Rd w Fr β (.Jc (p::q::l)) (.tuple (x::y::r').toArray)
  grind [Rd]
def Hj{P}{Γ}{k}{spec}(U:k≠hb)(h:gi P Γ k spec):Gb P Γ (Kh k spec):=by
 intro f args bx oc W os bx' oc' i;unfold Kh at i;split at i
 case h_2=>cases i
 split at i
 case isFalse=>cases i
 rename_i Q;subst Q;obtain⟨R,O,i⟩:=qm i;cases i;obtain⟨us,C,B⟩:=qb O;obtain⟨K,M⟩:=h;obtain⟨⟨t,p⟩,N⟩:=M us R B;intro w Fr β vs r;refine enters_of K U ?_;obtain rfl:=Yy C r.args;refine(N w r.g).mono ?_;rintro e w' ⟨v,rfl,a,E⟩;cases b:R.row with
 |none=>
  obtain⟨Rl,y⟩:=r.rel.grow E (Fr':=Fr) fun _ _=>rfl
  refine⟨_,Fr,β,rfl,SU ?_,Rl,y,(fun L h=>by cases h),fun h=>by cases h⟩;unfold ve.si ve.vs;rw[b];exact HA t
 |some q=>
  obtain⟨c,n,z,ty⟩:=q;have a:=a c n z ty b;have p:=p c n z ty b;obtain⟨Fr',d⟩:∃F:Nat->Nat,F=fun g=>if v.ownBlock=some g then c.length else Fr g:=⟨_,rfl⟩
  have o:∀g,g<w.heap.size->Fr' g=Fr g:=fun g S=>by
   rw[d];dsimp only;rw[if_neg];intro e;have:=(a.lt g e).1;omega
  obtain⟨Rl,y⟩:=r.rel.grow E (Fr':=Fr') o;have V:Rd w' Fr' β (.ga n (c.map .flat)) v:=by
   simp only[Rd];have I:=a.1;rcases a.2 with⟨rfl,X⟩|⟨g,l,J,rfl,S,G,A,_⟩
   ·simp_all
   ·refine⟨some ⟨g,0,none⟩,l,rfl,A,.inr ⟨g,0,c,rfl,fun j u H=>?_,HA fun x D=>(p x D).1,fun x D=>(p x D).2⟩⟩
    have T:=(qg H).1;refine⟨?_,?_⟩
    ·rw[d];dsimp only
     rw[if_pos (show(Value.slice (some ⟨g,0,none⟩) n l).ownBlock=some g from rfl)];omega
    ·rw[Zc,a.cellAt j aa,H]
  refine⟨_,Fr',β,rfl,SU ?_,Rl,y,(fun L h=>by cases h),fun h=>by cases h⟩
  grind [ve.si,ve.vs,TU,HA,ra]
end ya
namespace Go.Proofs.YtglaihdcndcmkaaGreatDoor
attribute [local go_sem] Oper.semAt_some
def ml{W}{D B t:Nat}{v}(h:D≠B)(a:Boxed W B t v)(o):Boxed (W.putObj D o) B t v:=(World.putObj_heap_other (Wf h)).trans a
def KA{w}{tmps}{n0}{v b e}(c1:w.cell? ⟨n0,0,none⟩=some v)(c2:w.cell? ⟨n0+1,0,none⟩=some b)(c3:w.cell? ⟨n0+1+1,0,none⟩=some e)
 (a:tmps.getD 2 undef=.pointer (some ⟨n0,0,none⟩):=by rfl) (c:tmps.getD 3 undef=.pointer (some ⟨n0+1,0,none⟩):=by rfl) (d:tmps.getD 4 undef=.pointer (some ⟨n0+1+1,0,none⟩):=by rfl):
 (results Tryz.f75 tmps).run Tryz.prog w=.ok (.tuple #[v,b,e]) w:=by
 rw[yo]at a c d;simp[results,Tryz.results75,go_sem,c1,c2,c3,a,c,d]
def cV(n0:Nat)(s:ByteArray)(x:He):Act:={tmps:=#[.string s,undef,.pointer (some ⟨n0,0,none⟩),.pointer (some ⟨n0+1,0,none⟩),.pointer (some ⟨n0+1+1,0,none⟩),.string x.1.1,.int .i64 x.1.2,undef,undef,undef,undef,.string s,.func (.func 205) #[] #[.pointer (some ⟨n0+1+1+1,0,none⟩)],.string x.1.1,.int .i64 x.1.2,undef,undef,undef,undef,undef,undef,undef,undef,undef,undef,undef,undef,undef,undef,undef,undef,undef,undef,undef,undef,undef,undef,undef,undef,undef,undef,undef,undef,undef,undef,undef,undef,undef,undef,undef,undef,undef,undef,undef,undef,undef,undef,undef,undef,undef,undef,undef,undef,undef,undef,undef,undef,undef,undef,undef,undef,undef,undef,undef,undef,undef,undef,undef,undef,undef,undef,undef,undef,undef,undef,undef,undef,undef,undef,undef,undef,undef,undef,undef,undef],defers:=[]}
def O4{n0 k}{w W c e}{s p a b}{at_}{pre}{v v3}{L:Bool}{n}(E:p.size<=10000/\at_<=20000)
 (O:Boxed c n0 49 v) (K:Boxed c (n0+1) 3 (.int .i64 0)) (T:Boxed c (n0+1+1) 24 (.int .i64 (if L then 6 else 0))) (hs:Boxed c (n0+1+1+1) 9 (.string s))
 (J:Below n0 w c) (N:KeepsOthers W c) (y:Fk (n0+1+1+1) 0 W c) (M:Ek pre) (z:¬p.data.toList=[])
 (A:Ae (bc pre) p.data.toList=some ((bc pre).1++[(p.data.toList.take k,p.data.toList.drop (k+1))],L)) (o:a.data.toList=p.data.toList.take k) (q:b.data.toList=p.data.toList.drop (k+1))
 (d:c.ownsRow n0 60 2 v (bc pre).1.length (Zd (bc pre).1)) (C:n0<=c.heap.size) (i:0<n0)
 (j:e.ownsRow n0 60 2 v3 ((bc pre).1.length+1) (Zd (bc pre).1++[.string a,.string b])) (g:(c.alloc n).grownBy e v.ownBlock):
 KeepsOthers W (e.setCell ⟨n0,0,none⟩ v3)/\Fk (n0+1+1+1) 0 W (e.setCell ⟨n0,0,none⟩ v3)/\Cx n0 w s (pre++[⟨(p,at_),E⟩]) (e.setCell ⟨n0,0,none⟩ v3):=by
 obtain⟨r,F⟩:=gR (x:=⟨(p,at_),E⟩) M z A;obtain⟨_,H,S,I,D⟩:=Boxed.appended O ha d C (Aa _) j g;have G:∀{B t:Nat}{u:Value},Boxed c B t u->t≠60->B≠n0->Boxed (e.setCell ⟨n0,0,none⟩ v3) B t u:=fun h ht P=>((h.alloc n).kept g (h.not_row ht d)).other P _
 have l:=G hs ha aa;have Q:(⟨(p.data.toList.take k).toArray⟩:ByteArray)=a:=by apply fu;apply ei;rw[o]
 have R:(⟨(p.data.toList.drop (k+1)).toArray⟩:ByteArray)=b:=by apply fu;apply ei;rw[q]
 refine⟨N.trans I,Mz y ⟨Eq.trans l (Eq.symm hs),D.block _ i⟩,⟨⟨⟨_,H,?_,trivial⟩,G K ha aa,?_,l⟩,r⟩,J.trans D⟩
 ·grind [tE]
 grind
def E9{n0 g c m}{w W a}{s p}{at_}{pre}{F0:List lf}{q:lf}{L:Bool}(C:p.size<=10000/\at_<=20000)
 (y:Boxed a n0 49 (.slice (some ⟨g,0,none⟩) (m+1) c)) (v:Boxed a (n0+1) 3 (.int .i64 0)) (E:Boxed a (n0+1+1) 24 (.int .i64 (if L then 6 else 0))) (hs:Boxed a (n0+1+1+1) 9 (.string s))
 (D:Below n0 w a) (G:KeepsOthers W a) (l:Fk (n0+1+1+1) 0 W a) (F:Ek pre) (n:¬p.data.toList=[])
 (o:Ae (bc pre) p.data.toList=some (F0++[(q.1,q.2++p.data.toList)],L)) (z:F0.length=m) (j:n0<=g)
 (b:a.ownsRow n0 60 2 (.slice (some ⟨g,0,none⟩) (m+1) c) (m+1) (Zd F0++[.string ⟨q.1.toArray⟩,.string ⟨q.2.toArray⟩])) (A:0<n0):
 KeepsOthers W (a.setCell ⟨g,m* 2+1,none⟩ (.string (⟨q.2.toArray⟩++p)))/\Fk (n0+1+1+1) 0 W (a.setCell ⟨g,m* 2+1,none⟩ (.string (⟨q.2.toArray⟩++p)))/\Cx n0 w s (pre++[⟨(p,at_),C⟩]) (a.setCell ⟨g,m* 2+1,none⟩ (.string (⟨q.2.toArray⟩++p))):=by
 obtain⟨k,d⟩:=gR (x:=⟨(p,at_),C⟩) F n o;have i:∀{B t:Nat}{u:Value},Boxed a B t u->t≠60->B≠g:=fun h ht e=>h.not_row ht b (by rw[e];rfl)
 have n1:=i y ha;have n2:=i v ha;have n3:=i E ha;have n4:=i hs ha;have r:∀{B t:Nat}{u:Value},Boxed a B t u->B≠g->Boxed (a.setCell ⟨g,m* 2+1,none⟩ (.string (⟨q.2.toArray⟩++p))) B t u:=fun h H=>(Below.heap_setCell _ _ _ _ H).trans h
 refine⟨G.trans (KeepsOthers.setCell _ _ _),Mz l (nS n4 aa _ _),⟨⟨⟨_,r y n1,?_,trivial⟩,r v n2,?_,r hs n4⟩,k⟩,D.setCell (p:=⟨g,m* 2+1,none⟩) j _⟩
 ·have:=(b.stored (m* 2+1) (.string (⟨q.2.toArray⟩++p))).1
  rw[d,tE];dsimp only;rw[Da,z,mu];rw[du _ _ (by grind [tv]),tv,z,show m* 2+1 - m* 2=1 by omega]at this;have e:(ByteArray.mk q.2.toArray++p)=⟨(q.2++p.data.toList).toArray⟩:=by
   apply fu;apply ei;simp
  grind
 grind
def m6:(Tryz.prog.info? 60).map (fun i=>(i.zero,i.size,i.bytes))=some (some (.agg #[.string ⟨#[]⟩,.string ⟨#[]⟩]),2,32):=ca
def uv{n0}{w W a}{v}{b e}{pre}{x}(j:Boxed a n0 49 v)(d:Boxed a (n0+1) 3 (.int .i64 b))(g:Boxed a (n0+1+1) 24 (.int .i64 e))
 (c:Below n0 w a) (i:KeepsOthers W a) (h:Ek pre) (k:x.1.1.data.toList≠[]) (hs:Ae (bc pre) x.1.1.data.toList=none):
 KeepsOthers W (((a.setCell ⟨n0,0,none⟩ (.slice none 0 0)).setCell ⟨n0+1,0,none⟩ (.int .i64 0)).setCell ⟨n0+1+1,0,none⟩ (.int .i64 7))/\
 Out n0 w .ret (pre++[x]) (((a.setCell ⟨n0,0,none⟩ (.slice none 0 0)).setCell ⟨n0+1,0,none⟩ (.int .i64 0)).setCell ⟨n0+1+1,0,none⟩ (.int .i64 7)):=
 ⟨((i.trans (KeepsOthers.setCell _ _ _)).trans (KeepsOthers.setCell _ _ _)).trans (KeepsOthers.setCell _ _ _),
   .inl ⟨⟨⟨((j.set _).other aa _).other aa _,((d.other aa _).set _).other aa _,((g.other aa _).other aa _).set _⟩,rfl,pre,x,rfl,h,k,hs⟩,
    ((c.setCell (p:=⟨n0,0,none⟩) (Aa _) _).setCell (p:=⟨n0+1,0,none⟩) ea _).setCell (p:=⟨n0+1+1,0,none⟩) la _⟩⟩
set_option maxRecDepth 100000 in
def ze2(s)(w)(hmZ:Bf w)(hs:s.size<=10000):Calls Tryz.prog 75 #[.string s] w (ze1 (Pg s.data.toList) w):=by
 refine(callsIn_wide (n:=3)).1 ?_;refine callsIn_of_wp_marks Tryz.func75 rfl trivial ?_ rfl;simp only[Tryz.ntmps75,ou,sa,Ca,Nat.reduceAdd,Nat.reduceSub,pu,qu,ru,tu,Ma,Fa];refine wpIn_wide.2 ?_
 go_wp2_with(go_at_call 135;refine(l_ _ _).mono ?_;rintro e w' ⟨rfl,rfl⟩)
 obtain⟨n0,S⟩:∃n0,w.heap.size=n0:=⟨_,rfl⟩;have hB0:Below n0 w ((((w.alloc (.cells #[.slice none 0 0] 49)).alloc (.cells #[.int .i64 0] 3)).alloc (.cells #[.int .i64 0] 24)).alloc (.cells #[.string s] 9)):=by
  rw[<-S];exact((((Below.refl _ w).alloc (Aa _) _).alloc ea _).alloc La _).alloc La _
 have hl0:Boxed ((((w.alloc (.cells #[.slice none 0 0] 49)).alloc (.cells #[.int .i64 0] 3)).alloc (.cells #[.int .i64 0] 24)).alloc (.cells #[.string s] 9)) n0 49 (.slice none 0 0):=by
  rw[<-S];exact(((Boxed.new w _ _).alloc _).alloc _).alloc _
 have hb0:Boxed ((((w.alloc (.cells #[.slice none 0 0] 49)).alloc (.cells #[.int .i64 0] 3)).alloc (.cells #[.int .i64 0] 24)).alloc (.cells #[.string s] 9)) (n0+1) 3 (.int .i64 0):=by
  have:=Boxed.new (w.alloc (.cells #[.slice none 0 0] 49)) 3 (.int .i64 0);rw[sn,S]at this;exact(this.alloc _).alloc _
 have he0:Boxed ((((w.alloc (.cells #[.slice none 0 0] 49)).alloc (.cells #[.int .i64 0] 3)).alloc (.cells #[.int .i64 0] 24)).alloc (.cells #[.string s] 9)) (n0+1+1) 24 (.int .i64 0):=by
  have:=Boxed.new ((w.alloc (.cells #[.slice none 0 0] 49)).alloc (.cells #[.int .i64 0] 3)) 24 (.int .i64 0);rw[sn,sn,S]at this;exact this.alloc _
 have hs0:Boxed ((((w.alloc (.cells #[.slice none 0 0] 49)).alloc (.cells #[.int .i64 0] 3)).alloc (.cells #[.int .i64 0] 24)).alloc (.cells #[.string s] 9)) (n0+1+1+1) 9 (.string s):=by
  have:=Boxed.new (((w.alloc (.cells #[.slice none 0 0] 49)).alloc (.cells #[.int .i64 0] 3)).alloc (.cells #[.int .i64 0] 24)) 9 (.string s);rw[sn,sn,sn,S]at this;exact this
 have hsz:((((w.alloc (.cells #[.slice none 0 0] 49)).alloc (.cells #[.int .i64 0] 3)).alloc (.cells #[.int .i64 0] 24)).alloc (.cells #[.string s] 9)).heap.size=n0+1+1+1+1:=by
  simp only[sn,S]
 have hr0:((((w.alloc (.cells #[.slice none 0 0] 49)).alloc (.cells #[.int .i64 0] 3)).alloc (.cells #[.int .i64 0] 24)).alloc (.cells #[.string s] 9)).ownsRow n0 60 2 (.slice none 0 0) 0 []:=zB _ _ _ _;have hm0:Bf ((((w.alloc (.cells #[.slice none 0 0] 49)).alloc (.cells #[.int .i64 0] 3)).alloc (.cells #[.int .i64 0] 24)).alloc (.cells #[.string s] 9)):=hmZ.KK (by rw[<-S];exact hmZ.lt) hB0;have hmlt:0<n0:=by rw[<-S];exact hmZ.lt
 have hwn:n0<=w.heap.size:=aa
 rw[S];generalize ((((w.alloc (.cells #[.slice none 0 0] 49)).alloc (.cells #[.int .i64 0] 3)).alloc (.cells #[.int .i64 0] 24)).alloc (.cells #[.string s] 9))=W0Z at*;refine(wpIn_wide (n:=3)).1 ?_
 refine wpIn_rangeFunc_ownF rfl aa (gf:=205) (lb:=#[.pointer (some ⟨n0+1+1+1,0,none⟩)]) rfl trivial (enters_of Tryz.func205 ca rfl)
  (m_ _ aa s hs (n0+1+1+1) _ hs0 hm0) Mz (y9 aa aa) (Below.refl _ _) (fun _=>rfl)
  (Cx n0 w s) (Out n0 w) (M_ n0 w s _ hwn aa) (fun c=>zbk n0 w c _ hwn aa)
  ⟨⟨⟨⟨_,hl0,hr0,trivial⟩,hb0,he0,hs0⟩,O5⟩,hB0⟩ (cV n0 s) ?assign ?body ?done ?stop
 case assign=>
  intro l x W K hKZ
  gi_wp2
  exact hKZ
 case body=>
  rintro l pre x W ⟨⟨⟨⟨v,y,J,_⟩,E,t,hbs⟩,A⟩,hBZ⟩ hlen;have hcl:=y.cell;have hcb:=E.cell;have hce:=t.cell;have hfl:=y.frozen;have hfb:=E.frozen;have hfe:=t.frozen;have P:=Lib.hid y;have u:=Lib.hid E;have O:=Lib.hid t;have HSZ:=Lib.hid hbs;clear y E t hbs;obtain⟨⟨p,at_⟩,hpZ⟩:=x;dsimp only at hpZ;unfold cV;dsimp only;by_cases heZ:p.data.toList=[]
  ·obtain rfl:p=⟨#[]⟩:=by cases p with|mk d=>simp_all
   clear heZ
   gi_wp2
   refine⟨KeepsOthers.setCell _ _ _,.inr ⟨⟨⟨⟨v,P.out.other aa _,?_,trivial⟩,?_,?_⟩,rfl,pre,_,rfl,A,rfl⟩,hBZ.setCell (p:=⟨n0+1,0,none⟩) ea _⟩⟩
   ·grind [Aw,Hid.out]
   ·rw[List.getLast?_concat];exact u.out.set _
   ·rw[List.dropLast_concat];exact O.out.other aa _
  ·have HNE:=Lib.hid heZ;clear heZ
   have e1:p.toList=[] ↔ False:=by rw[Lib.toList_data];exact iff_of_false HNE.out id
   have e2:p.toList.isEmpty=false:=by
    rw[Lib.toList_data];cases h:p.data.toList with
    |nil=>grind [Hid.out]
    |cons _ _=>rfl
   have hpos:0<p.size:=by
    rcases Nat.eq_zero_or_pos p.size with h|h
    ·simp_all
    ·exact h
   obtain⟨W1Z,H,I,hl1,hb1,he1,hs1,B,hB1,hk1,hkp1⟩:∃W1Z:World,(998<p.size->W.setCell ⟨n0+1+1,0,none⟩ (.int .i64 6)=W1Z)/\(¬998<p.size->W=W1Z)/\Boxed W1Z n0 49 v/\Boxed W1Z (n0+1) 3 (.int .i64 0)/\
    Boxed W1Z (n0+1+1) 24 (.int .i64 (if(bc pre).2||decide (998<p.data.toList.length)then 6 else 0))/\Boxed W1Z (n0+1+1+1) 9 (.string s)/\W1Z.ownsRow n0 60 2 v (bc pre).1.length (Zd (bc pre).1)/\Below n0 w W1Z/\KeepsOthers W W1Z/\Fk (n0+1+1+1) 0 W W1Z:=by
    rw[show p.data.toList.length=p.size from rfl];by_cases j:998<p.size
    ·refine⟨_,fun _=>rfl,fun h=>absurd j h,P.out.other aa _,u.out.other aa _,?_,HSZ.out.other aa _,Aw O.out ha J _,hBZ.setCell (p:=⟨n0+1+1,0,none⟩) la _,KeepsOthers.setCell _ _ _,nS aa aa _ _⟩
     rw[show decide (998<p.size)=true by grind,tn];exact O.out.set _
    grind [Hid.out,KeepsOthers.refl,mS,Boxed.lt,Below.refl]
   clear P u O HSZ;have hcl1:=hl1.cell;have hcb1:=hb1.cell;have hce1:=he1.cell;have hfl1:=hl1.frozen;have hfb1:=hb1.frozen;have hfe1:=he1.frozen;have P:=Lib.hid hl1;have u:=Lib.hid hb1;have O:=Lib.hid he1;have HSZ:=Lib.hid hs1;clear hl1 hb1 he1 hs1;have hpm:p.size<=maxLen:=by unfold maxLen;omega
   have z:=Q5 p hpos;rcases y:vc p[0]with _|_
   ·rw[y]at z
    obtain⟨q1Z,q2Z⟩:=bY _ y;clear y;have hm1:=hmZ.KK aa hB1;have hBs:=hB1.size;rcases R:vh 58 p.data.toList with _|k
    ·have T:=Lib.hid (zfM (st:=bc pre) z R)
     have HCO:=Lib.hid R;clear R z;by_cases j:998<p.size
     all_goals first|(replace H:=H j;clear I)|(obtain rfl:=I j;clear H I)
     all_goals
      gi_wp2_with (refine⟨trivial,?_⟩;gi_at_call 39;refine(CallsIn.inRound l (callsIn_wide.2 (X1 58 p _ hm1 aa HCO.out))).mono ?_;rintro e V ⟨rfl,o⟩;have N:Boxed V n0 49 v:=(o.block _ P.out.lt).trans P.out;have C:Boxed V (n0+1) 3 (.int .i64 0):=(o.block _ u.out.lt).trans u.out;have M:Boxed V (n0+1+1) 24 (.int .i64 (if((bc pre).2||decide (998<p.data.toList.length))=true then 6 else 0)):=(o.block _ O.out.lt).trans O.out;have hcl2:=Boxed.cell N;have hfl2:=Boxed.frozen N;have hcb2:=Boxed.cell C;have hfb2:=Boxed.frozen C;have hce2:=Boxed.cell M;have hfe2:=Boxed.frozen M;have HL2:=Lib.hid N;have HB2:=Lib.hid C;have HE2:=Lib.hid M;clear N C M)
      refine⟨trivial,?_⟩
      gi_wp2
      refine⟨trivial,?_⟩
      gi_wp2
      exact uv (x:=⟨(p,at_),hpZ⟩) HL2.out HB2.out HE2.out (hB1.trans (o.mono (Vf hwn hBs))) (hk1.trans (Nz o)) A HNE.out T.out
    ·have hkl:=lD R
     rw[show p.data.toList.length=p.size from rfl]at hkl;rcases hna:pi (p.data.toList.take k)with _|_
     ·have T:=Lib.hid (zfN (st:=bc pre) z R hna)
      have HCO:=Lib.hid R;have HNA:=Lib.hid hna;clear R z hna;by_cases j:998<p.size
      all_goals first|(replace H:=H j;clear I)|(obtain rfl:=I j;clear H I)
      all_goals
       gi_wp2_with (first|(refine⟨trivial,?_⟩;gi_at_call 39;refine(CallsIn.inRound l (callsIn_wide.2 (QD 58 p _ hm1 aa k HCO.out))).mono ?_;rintro e V ⟨a,b,rfl,hak,hbk,hal,y,o⟩;have haz:a.size<=maxLen:=(by unfold maxLen;omega);have HAK:=Lib.hid hak;clear hak;have N:Boxed V n0 49 v:=(o.block _ P.out.lt).trans P.out;have C:Boxed V (n0+1) 3 (.int .i64 0):=(o.block _ u.out.lt).trans u.out;have M:Boxed V (n0+1+1) 24 (.int .i64 (if((bc pre).2||decide (998<p.data.toList.length))=true then 6 else 0)):=(o.block _ O.out.lt).trans O.out;have hcl2:=Boxed.cell N;have hfl2:=Boxed.frozen N;have hcb2:=Boxed.cell C;have hfb2:=Boxed.frozen C;have hce2:=Boxed.cell M;have hfe2:=Boxed.frozen M;have HL2:=Lib.hid N;have HB2:=Lib.hid C;have HE2:=Lib.hid M;clear N C M;have Y:=xA B o;have hs2:Boxed V (n0+1+1+1) 9 (.string s):=(o.block _ HSZ.out.lt).trans HSZ.out;have HS2:=Lib.hid hs2;clear hs2;have hw2n:n0<=V.heap.size:=(by have:=o.size;omega))|(refine⟨trivial,?_⟩;gi_at_call 137;refine(CallsIn.inRound l (callsIn_wide.2 (rH a false (by rw[hal.out];exact HNA.out) _ haz))).mono ?_;rintro e w3Z ⟨rfl,rfl⟩))
       refine⟨trivial,?_⟩
       gi_wp2
       exact uv (x:=⟨(p,at_),hpZ⟩) HL2.out HB2.out HE2.out (hB1.trans (o.mono (Vf hwn hBs))) (hk1.trans (Nz o)) A HNE.out T.out
     ·rcases U:p.data.toList.all Ti with _|_
      ·have T:=Lib.hid (ZV (st:=bc pre) U)
       have HSH:=Lib.hid U;have HCO:=Lib.hid R;have HNA:=Lib.hid hna;clear R z hna U;by_cases j:998<p.size
       all_goals first|(replace H:=H j;clear I)|(obtain rfl:=I j;clear H I)
       all_goals
        gi_wp2_with (first|(refine⟨trivial,?_⟩;gi_at_call 39;refine(CallsIn.inRound l (callsIn_wide.2 (QD 58 p _ hm1 aa k HCO.out))).mono ?_;rintro e V ⟨a,b,rfl,hak,hbk,hal,y,o⟩;have haz:a.size<=maxLen:=(by unfold maxLen;omega);have HAK:=Lib.hid hak;clear hak;have N:Boxed V n0 49 v:=(o.block _ P.out.lt).trans P.out;have C:Boxed V (n0+1) 3 (.int .i64 0):=(o.block _ u.out.lt).trans u.out;have M:Boxed V (n0+1+1) 24 (.int .i64 (if((bc pre).2||decide (998<p.data.toList.length))=true then 6 else 0)):=(o.block _ O.out.lt).trans O.out;have hcl2:=Boxed.cell N;have hfl2:=Boxed.frozen N;have hcb2:=Boxed.cell C;have hfb2:=Boxed.frozen C;have hce2:=Boxed.cell M;have hfe2:=Boxed.frozen M;have HL2:=Lib.hid N;have HB2:=Lib.hid C;have HE2:=Lib.hid M;clear N C M;have Y:=xA B o;have hs2:Boxed V (n0+1+1+1) 9 (.string s):=(o.block _ HSZ.out.lt).trans HSZ.out;have HS2:=Lib.hid hs2;clear hs2;have hw2n:n0<=V.heap.size:=(by have:=o.size;omega))|(refine⟨trivial,?_⟩;gi_at_call 137;refine(CallsIn.inRound l (callsIn_wide.2 (rH a true (by rw[hal.out];exact HNA.out) _ haz))).mono ?_;rintro e w3Z ⟨rfl,rfl⟩)|(refine⟨trivial,?_⟩;gi_at_call 136;refine(CallsIn.inRound l (callsIn_wide.2 (SA p false HSH.out _ hpm))).mono ?_;rintro e w3Z ⟨rfl,rfl⟩))
        exact uv (x:=⟨(p,at_),hpZ⟩) HL2.out HB2.out HE2.out (hB1.trans (o.mono (Vf hwn hBs))) (hk1.trans (Nz o)) A HNE.out T.out
      ·obtain⟨i0Z,hi0,hz0,hz1,hz2⟩:=info_parts m6
       have hgl:=DE A;have Z:=YV (st:=bc pre) U z R hna;have T:=Lib.hid Z;have HSH:=Lib.hid U;have HCO:=Lib.hid R;have HNA:=Lib.hid hna;clear R z hna U Z;by_cases j:998<p.size
       all_goals first|(replace H:=H j;clear I)|(obtain rfl:=I j;clear H I)
       all_goals
        gi_wp2_with (first|(refine⟨trivial,?_⟩;gi_at_call 39;refine(CallsIn.inRound l (callsIn_wide.2 (QD 58 p _ hm1 aa k HCO.out))).mono ?_;rintro e V ⟨a,b,rfl,hak,hbk,hal,y,o⟩;have haz:a.size<=maxLen:=(by unfold maxLen;omega);have HAK:=Lib.hid hak;clear hak;have N:Boxed V n0 49 v:=(o.block _ P.out.lt).trans P.out;have C:Boxed V (n0+1) 3 (.int .i64 0):=(o.block _ u.out.lt).trans u.out;have M:Boxed V (n0+1+1) 24 (.int .i64 (if((bc pre).2||decide (998<p.data.toList.length))=true then 6 else 0)):=(o.block _ O.out.lt).trans O.out;have hcl2:=Boxed.cell N;have hfl2:=Boxed.frozen N;have hcb2:=Boxed.cell C;have hfb2:=Boxed.frozen C;have hce2:=Boxed.cell M;have hfe2:=Boxed.frozen M;have HL2:=Lib.hid N;have HB2:=Lib.hid C;have HE2:=Lib.hid M;clear N C M;have Y:=xA B o;have hs2:Boxed V (n0+1+1+1) 9 (.string s):=(o.block _ HSZ.out.lt).trans HSZ.out;have HS2:=Lib.hid hs2;clear hs2;have hw2n:n0<=V.heap.size:=(by have:=o.size;omega))|(refine⟨trivial,?_⟩;gi_at_call 137;refine(CallsIn.inRound l (callsIn_wide.2 (rH a true (by rw[hal.out];exact HNA.out) _ haz))).mono ?_;rintro e w3Z ⟨rfl,rfl⟩)|(refine⟨trivial,?_⟩;gi_at_call 136;refine(CallsIn.inRound l (callsIn_wide.2 (SA p true HSH.out _ hpm))).mono ?_;rintro e w3Z ⟨rfl,rfl⟩)|(gi_at_builtin;refine wpListIn_append_own _ rfl _ _ 49 rfl n0 60 i0Z _ 2 32 Tryz.underlying49 hi0 hz0 hz1 hz2 rfl ha _ _ _ rfl (Y.alloc _) ⟨V.heap.size,0,none⟩ 1 1 [.string a,.string b] rfl rfl (cell_two_new _ _ _ _) (by simp[Value.oneCell']) (by unfold maxLen;omega) aa La ?_;intro v3 w3Z hown3 hgr3 _;obtain⟨g3,cap3,rfl⟩:=ownsRow_succ hown3;have hap:=Boxed.appended HL2.out ha Y hw2n (Aa _) hown3 hgr3;have hc3:=hap.1.cell;have hf3:=hap.1.frozen;clear hap))
        exact O4 hpZ HL2.out HB2.out HE2.out HS2.out (hB1.trans (o.mono (Vf hwn hBs))) (hk1.trans (Nz o)) (Mz hkp1 (mS HSZ.out.lt hm1.lt o)) A HNE.out T.out hal.out y.out Y hw2n hmlt hown3 hgr3
   ·rw[y]at z
    have C:=cY _ y;clear y;rcases N:(bc pre).1.reverse with _|⟨q,R⟩
    ·have hF:(bc pre).1=[]:=by simpa using N
     have T:=Lib.hid (zfK (l:=p.data.toList) z hF);have M:(bc pre).1.length=0:=by rw[hF];rfl
     clear N hF z;rw[M]at B;clear M;have Y:∃a o,v=.slice a 0 o:=by
      rcases EI B with⟨h,_⟩|⟨g,o,h,_⟩
      ·exact⟨_,_,h⟩
      ·exact⟨_,_,h⟩
     obtain⟨a,o,rfl⟩:=Y;clear B;by_cases j:998<p.size
     all_goals first|(replace H:=H j;clear I)|(obtain rfl:=I j;clear H I)
     all_goals rcases C with q1Z|⟨q1Z,q2Z⟩
     all_goals
      gi_wp2
      refine⟨trivial,?_⟩
      gi_wp2
      exact uv (x:=⟨(p,at_),hpZ⟩) P.out u.out O.out hB1 hk1 A HNE.out T.out
    ·have hF:(bc pre).1=R.reverse++[q]:=by rw[<-List.reverse_reverse (bc pre).1,N,List.reverse_cons]
     obtain⟨F0,Y⟩:∃F0,R.reverse=F0:=⟨_,rfl⟩;rw[Y]at hF;have M:(bc pre).1.length=F0.length+1:=by rw[hF];simp
     rw[M,hF,tE]at B;obtain⟨m,hm0⟩:∃m,F0.length=m:=⟨_,rfl⟩;rw[hm0]at B;obtain⟨g,o,rfl,hg0,hglt,hcap⟩:∃g o,v=.slice (some ⟨g,0,none⟩) (m+1) o/\n0<=g/\g<W1Z.heap.size/\m+1<=o:=by
      grind [EI]
     have Jd:=B.cellAt (m* 2+1) aa;rw[Af (by rw[tv];omega),tv,hm0,show m* 2+1 - m* 2=1 by omega]at Jd;have hfro:=B.frozenAt (m* 2+1);have Q:W1Z.cell? ⟨g,m* 2+1,none⟩=some (.string ⟨q.2.toArray⟩):=Jd;have X:=Lib.hid B;have HFZ:=Lib.hid hF;have hml:m<=1000001:=by have:=DE A;omega
     have HMZ:=Lib.hid hm0;have hqs:(ByteArray.mk q.2.toArray).size<=200000000:=by
      have:=hR A q (by rw[hF];simp);show q.2.length<=_;omega
     clear Jd hF N Y M B hm0;rcases U:p.data.toList.all Ti with _|_
     ·have T:=Lib.hid (ZV (st:=bc pre) U)
      have HSH:=Lib.hid U;clear U z;by_cases j:998<p.size
      all_goals first|(replace H:=H j;clear I)|(obtain rfl:=I j;clear H I)
      all_goals rcases C with q1Z|⟨q1Z,q2Z⟩
      all_goals
       gi_wp2_with (refine⟨trivial,?_⟩;gi_at_call 136;refine(CallsIn.inRound l (callsIn_wide.2 (SA p false HSH.out _ hpm))).mono ?_;rintro e V ⟨rfl,rfl⟩)
       exact uv (x:=⟨(p,at_),hpZ⟩) P.out u.out O.out hB1 hk1 A HNE.out T.out
     ·have Z:=XV (st:=bc pre) (l:=p.data.toList) U z HFZ.out
      have T:=Lib.hid Z;have HSH:=Lib.hid U;clear U z Z;by_cases j:998<p.size
      all_goals first|(replace H:=H j;clear I)|(obtain rfl:=I j;clear H I)
      all_goals rcases C with q1Z|⟨q1Z,q2Z⟩
      all_goals
       gi_wp2_with (refine⟨trivial,?_⟩;gi_at_call 136;refine(CallsIn.inRound l (callsIn_wide.2 (SA p true HSH.out _ hpm))).mono ?_;rintro e V ⟨rfl,rfl⟩)
       exact E9 hpZ P.out u.out O.out HSZ.out hB1 hk1 hkp1 A HNE.out T.out HMZ.out hg0 X.out hmlt
 case done=>
  rintro D xs W hDZ j ⟨⟨⟨⟨v,y,J,_⟩,E,t,hbs⟩,A⟩,hBZ⟩ hKZ;have G:Pg s.data.toList=.form:=by
   unfold Pg;rw[<-j,<-ph (xs.map He.pair),II A];rfl
  have hcl:=y.cell;have hcb:=E.cell;have hce:=t.cell;have hfl:=y.frozen;have hfb:=E.frozen;have hfe:=t.frozen;have HKZ:=Lib.hid hKZ;have HFo:=Lib.hid G;have P:=Lib.hid y;have u:=Lib.hid E;have O:=Lib.hid t;clear y E t hbs hKZ G j;go_wp2;rw[HFo.out];have hK2:=(((KeepsOthers.setCell W ⟨n0,0,none⟩ (.slice none 0 0)).trans (KeepsOthers.setCell _ ⟨n0+1,0,none⟩ (.int .i64 0))).trans (KeepsOthers.setCell _ ⟨n0+1+1,0,none⟩ (.int .i64 7))).same D _ HKZ.out rfl;have h1Z:=(((P.out.set (.slice none 0 0)).other (show n0≠n0+1 by omega) (.int .i64 0)).other (show n0≠n0+1+1 by omega) (.int .i64 7));have h2Z:=(((u.out.other (show n0+1≠n0 by omega) (.slice none 0 0)).set (.int .i64 0)).other (show n0+1≠n0+1+1 by omega) (.int .i64 7));have h3Z:=(((O.out.other (show n0+1+1≠n0 by omega) (.slice none 0 0)).other (show n0+1+1≠n0+1 by omega) (.int .i64 0)).set (.int .i64 7));have h4Z:=((hBZ.setCell (p:=⟨n0,0,none⟩) (Aa _) (.slice none 0 0)).setCell (p:=⟨n0+1,0,none⟩) ea (.int .i64 0)).setCell (p:=⟨n0+1+1,0,none⟩) la (.int .i64 7);refine⟨ea,.inl ⟨_,_,rfl,run_takeDeferred hK2,?_⟩⟩;have hd0:D≠n0:=aa
  have hd1:D≠n0+1:=aa
  have hd2:D≠n0+1+1:=aa
  have c1:=(ml hd0 h1Z (.deferred none)).cell;have c2:=(ml hd1 h2Z (.deferred none)).cell;have c3:=(ml hd2 h3Z (.deferred none)).cell;exact⟨_,KA c1 c2 c3,rfl,by rw[S];exact h4Z.trans (belowK_b (w:=w) hwn _ D _ _ aa hK2 rfl rfl)⟩
 case stop=>
  rintro D c pre W hDZ B hout hKZ;rcases hout with⟨⟨⟨y,E,t⟩,rfl,z,x,rfl,T,hxZ,R⟩,hBZ⟩|⟨⟨⟨⟨v,y,J,_⟩,E,t⟩,rfl,z,x,rfl,T,hxZ⟩,hBZ⟩
  ·have G:Pg s.data.toList=.form:=by
    obtain⟨r,hr⟩:=B;unfold Pg;rw[<-hr,Xf,Ac,II T,Cg];show(match Dj ((x.1.1.data.toList,x.1.2)::r) _ with|none=>Split.form|some (_,true,_)=>.long|some (f,false,b)=>.ok (f.map fun p:lf=>(p.1,trimB p.2)) b)=_;rw[Dj,if_neg hxZ,R]
   have hcl:=y.cell;have hcb:=E.cell;have hce:=t.cell;have hfl:=y.frozen;have hfb:=E.frozen;have hfe:=t.frozen;have HKZ:=Lib.hid hKZ;have HFo:=Lib.hid G;have P:=Lib.hid y;have u:=Lib.hid E;have O:=Lib.hid t;clear y E t hKZ G
   gi_wp2
   rw[HFo.out];refine⟨ea,.inl ⟨_,_,rfl,run_takeDeferred HKZ.out,?_⟩⟩;have hd0:D≠n0:=aa
   have hd1:D≠n0+1:=aa
   have hd2:D≠n0+1+1:=aa
   have c1:=(ml hd0 P.out (.deferred none)).cell;have c2:=(ml hd1 u.out (.deferred none)).cell;have c3:=(ml hd2 O.out (.deferred none)).cell;exact⟨_,KA c1 c2 c3,rfl,by rw[S];exact hBZ.trans (belowK_b (w:=w) hwn _ D _ _ aa HKZ.out rfl rfl)⟩
  ·rw[List.dropLast_concat]at J t
   rw[List.getLast?_concat]at E;have C:Dj (Sf s.data.toList 0) ([],false)=some ((bc z).1,(bc z).2,x.1.2):=by
    obtain⟨r,hr⟩:=B;rw[<-hr,Xf,Ac,II T,Cg];show Dj ((x.1.1.data.toList,x.1.2)::r) _=_;rw[Dj,if_pos hxZ]
   have hat:2<=x.1.2:=by
    obtain⟨r,hr⟩:=B;exact b7 _ _ _ (Aa _) (x.1.1.data.toList,x.1.2) (by rw[<-hr,Xf,Cg];simp[He.pair])
   have hgl:=DE T;have hgv:=hR T;have hpl:z.length<=10000:=by
    obtain⟨r,hr⟩:=B;have h1Z:=a7 _ s.data.toList 0 (Aa _);rw[<-hr,Da,qn,Da,show s.data.toList.length=s.size from rfl]at h1Z;omega
   generalize R:bc z=st at*;obtain⟨F,L⟩:=st;obtain⟨⟨p,at_⟩,hpZ⟩:=x;dsimp only at J t E C hat hgl hgv hpZ;replace E:Boxed W (n0+1) 3 (.int .i64 at_):=E;have hcl:=y.cell;have hcb:=E.cell;have hce:=t.cell;have hfl:=y.frozen;have hfb:=E.frozen;have hfe:=t.frozen;have HKZ:=Lib.hid hKZ;have P:=Lib.hid y;have u:=Lib.hid E;have HRZ:=Lib.hid C;clear y E hKZ C R hxZ T B hce hfe;cases L
   ·replace t:Boxed W (n0+1+1) 24 (.int .i64 0):=t
    have hce:=t.cell;have hfe:=t.frozen;have O:=Lib.hid t;clear t;have G:Pg s.data.toList=.ok (F.map fun p=>(p.1,trimB p.2)) at_:=by unfold Pg;rw[HRZ.out]
    have HFo:=Lib.hid G;clear G;obtain⟨a0,j,rfl,N⟩:∃a0 j,v=.slice a0 F.length j/\(F.length=0\/∃g,a0=some ⟨g,0,none⟩/\n0<=g/\F.length<=j):=by
     grind [EI]
    obtain⟨n,hnZ⟩:∃n,F.length=n:=⟨_,rfl⟩;rw[hnZ]at P hcl J N hgl;have HNZ:=Lib.hid hnZ;have HAZ:=Lib.hid N;clear hnZ N
    gi_wp2
    go_wp2
    go_loopw [10,79] (fun _ i wr=>∃k:Nat,i=.int .i64 k/\k<=n/\Hid (Boxed wr n0 49 (.slice a0 n j))/\Hid (Boxed wr (n0+1) 3 (.int .i64 at_))/\Hid (Boxed wr (n0+1+1) 24 (.int .i64 0))/\Hid (wr.ownsRow n0 60 2 (.slice a0 n j) n (Zd ((F.take k).map (fun p=>(p.1,trimB p.2))++F.drop k)))/\Below n0 w wr/\Hid (wr.heap[D]?=some (.deferred (some []))))
     (fun _ i _=>n - (intOf i).toNat)
    case atStart=>grind [Lib.hid]
    case round=>
     clear hcl hcb hce hfl hfb hfe J P u O hBZ;obtain⟨k,rfl,hkZ,P,u,O,X,hBZ,H⟩:=hrel;have hcl:=P.out.cell;have hcb:=u.out.cell;have hce:=O.out.cell;have hfl:=P.out.frozen;have hfb:=u.out.frozen;have hfe:=O.out.frozen;by_cases fa:k<n
     ·obtain⟨g,rfl,hg0,hcap⟩:∃g,a0=some ⟨g,0,none⟩/\n0<=g/\n<=j:=HAZ.out.resolve_left aa
      have hkF:k<F.length:=by rw[HNZ.out];exact fa
      obtain⟨q,hqZ⟩:∃q,F[k]=q:=⟨_,rfl⟩;have M:Zd ((F.take k).map (fun p=>(p.1,trimB p.2))++F.drop k)=Zd ((F.take k).map (fun p=>(p.1,trimB p.2)))++([.string ⟨q.1.toArray⟩,.string ⟨q.2.toArray⟩]++Zd (F.drop (k+1))):=by
       rw[Qd hkF,hqZ];simp[Zd]
      have hml:(Zd ((F.take k).map (fun p=>(p.1,trimB p.2)))).length=k* 2:=by rw[tv,qn,Ue];omega
      have J:=X.out;rw[M]at J;have Jd:=J.cellAt (k* 2+1) aa;rw[Af aa,hml,show k* 2+1 - k* 2=1 by omega]at Jd;have Q:=Jd;have hfro:=J.frozenAt (k* 2+1);have Y:=Lib.hid J;have hqv:=hgv q la;have hqs:(ByteArray.mk q.2.toArray).size<=1000000000:=by show q.2.length<=_;omega
      have hne1:n0≠g:=fun e=>P.out.not_row ha X.out (by rw[e];rfl)
      have hne2:n0+1≠g:=fun e=>u.out.not_row ha X.out (by rw[e];rfl)
      have hne3:n0+1+1≠g:=fun e=>O.out.not_row ha X.out (by rw[e];rfl)
      have V:=Lib.hid hml;have HKF:=Lib.hid hkF;have HQZ:=Lib.hid hqZ;clear Jd J M hml hqZ;have hki:(k:Int)<(n:Int):=aa
      go_wp2;have hglt:=eu wr _ Q;have hclq:=fun d os=>cell_regrown hcl d os
      have hcgq:=fun d os=>cell_regrown Q d os
      (refine zdn 8 ca ca ?_;simp only[dx,List.take_zero];(repeat (first|go_big_quiet_skip|(go_big_quiet_want;go_big_quiet_op;first|go_big_quiet_on|(apply Exists.intro;refine⟨fun _=>?_,?_⟩;(· (go_at_call 138;exact zdw (zhg _ · hqs)));go_big_quiet_on))));refine wpQuiet_nil ?_;intro wqZ o;simp only[lm,zf])
      have hcg5:=(o.cell (p:=⟨g,k* 2+1,none⟩) hglt).trans Q;have hfg5:=(o.frozen (p:=⟨g,k* 2+1,none⟩) hglt).trans hfro;have hL5:=(o.block _ P.out.lt).trans P.out;have Z:=(o.block _ u.out.lt).trans u.out;have hE5:=(o.block _ O.out.lt).trans O.out;have hK5:=(o.block D (Nh.1 H.out).1).trans H.out;have hR5:=(xA Y.out o).stored (k* 2+1) (.string ⟨(trimB q.2).toArray⟩);have hR6:=Lib.hid hR5.1;have HL5:=Lib.hid hL5;have HB5:=Lib.hid Z;have HE5:=Lib.hid hE5;have HK5:=Lib.hid hK5;have I:=(hBZ.trans (o.mono (Vf hwn hBZ.size))).setCell (p:=⟨g,k* 2+1,none⟩) hg0 (.string ⟨(trimB q.2).toArray⟩);have U:=Lib.hid I;clear hclq hcgq hL5 Z hE5 hK5 hR5 I hcl hcb hce hfl hfb hfe Q hfro;go_wp2;go_roundw
      case rel=>
       refine⟨k+1,by go_num,aa,Lib.hid ((Below.heap_setCell _ _ _ _ hne1).trans HL5.out),Lib.hid ((Below.heap_setCell _ _ _ _ hne2).trans HB5.out),Lib.hid ((Below.heap_setCell _ _ _ _ hne3).trans HE5.out),Lib.hid ?_,U.out,Lib.hid ((Below.heap_setCell _ _ _ _ ?_).trans HK5.out)⟩
       ·have h:=hR6.out
        have e:(Zd ((F.take k).map (fun p:lf=>(p.1,trimB p.2)))++([Value.string ⟨q.1.toArray⟩,Value.string ⟨q.2.toArray⟩]++Zd (F.drop (k+1)))).set (k* 2+1) (Value.string ⟨(trimB q.2).toArray⟩)=Zd ((F.take (k+1)).map (fun p:lf=>(p.1,trimB p.2))++F.drop (k+1)):=by
         rw[du _ _ (by rw[V.out];omega),V.out,show k* 2+1 - k* 2=1 by omega,xo HKF.out,HQZ.out];simp[Zd]
        grind
       ·intro e
        subst e;have h:=H.out;have h2Z:=Y.out;rcases h2Z.2 with⟨h'Z,_⟩|⟨g'Z,cap',cur,h'Z,_,hhZ,_⟩<;>grind
      case measure=>simp[intOf];omega
     ·obtain rfl:k=n:=aa
      go_wp2
      go_region
      all_goals
       go_wp2;rw[HFo.out];have hK2:=(((KeepsOthers.setCell wr ⟨n0,0,none⟩ (.slice a0 k j)).trans (KeepsOthers.setCell _ ⟨n0+1,0,none⟩ (.int .i64 at_))).trans (KeepsOthers.setCell _ ⟨n0+1+1,0,none⟩ (.int .i64 0))).same D _ H.out rfl;have h1Z:=(((P.out.set (.slice a0 k j)).other (show n0≠n0+1 by omega) (.int .i64 at_)).other (show n0≠n0+1+1 by omega) (.int .i64 0));have h2Z:=(((u.out.other (show n0+1≠n0 by omega) (.slice a0 k j)).set (.int .i64 at_)).other (show n0+1≠n0+1+1 by omega) (.int .i64 0));have h3Z:=(((O.out.other (show n0+1+1≠n0 by omega) (.slice a0 k j)).other (show n0+1+1≠n0+1 by omega) (.int .i64 at_)).set (.int .i64 0));have h4Z:=((hBZ.setCell (p:=⟨n0,0,none⟩) (Aa _) (.slice a0 k j)).setCell (p:=⟨n0+1,0,none⟩) ea (.int .i64 at_)).setCell (p:=⟨n0+1+1,0,none⟩) La (.int .i64 0);have I:=Aw P.out ha X.out (.slice a0 k j);have M:=Aw (u.out.other (show n0+1≠n0 by omega) (.slice a0 k j)) ha I (.int .i64 at_);have U:=Aw ((O.out.other (show n0+1+1≠n0 by omega) (.slice a0 k j)).other (show n0+1+1≠n0+1 by omega) (.int .i64 at_)) ha M (.int .i64 0);have o:=ownsRow_putObj U (.deferred none) hK2 rfl;rw[xk (by rw[HNZ.out];omega),Jj (by rw[HNZ.out];omega),ph]at o;refine⟨ea,.inl ⟨_,_,rfl,run_takeDeferred hK2,?_⟩⟩;have hd0:D≠n0:=aa
       have hd1:D≠n0+1:=aa
       have hd2:D≠n0+1+1:=aa
       have c1:=(ml hd0 h1Z (.deferred none)).cell;have c2:=(ml hd1 h2Z (.deferred none)).cell;have c3:=(ml hd2 h3Z (.deferred none)).cell;exact⟨_,KA c1 c2 c3,_,rfl,by rw[S,qn,HNZ.out];exact o,by rw[S];exact(h4Z.drew).trans (belowK_b (w:=w) hwn _ D _ _ aa hK2 rfl rfl)⟩
   ·replace t:Boxed W (n0+1+1) 24 (.int .i64 6):=t
    have hce:=t.cell;have hfe:=t.frozen;have O:=Lib.hid t;clear t;have G:Pg s.data.toList=.long:=by unfold Pg;rw[HRZ.out]
    have HFo:=Lib.hid G;clear G
    gi_wp2
    go_wp2
    go_region
    all_goals
     go_wp2;rw[HFo.out];have hK2:=(((KeepsOthers.setCell W ⟨n0,0,none⟩ (.slice none 0 0)).trans (KeepsOthers.setCell _ ⟨n0+1,0,none⟩ (.int .i64 0))).trans (KeepsOthers.setCell _ ⟨n0+1+1,0,none⟩ (.int .i64 6))).same D _ HKZ.out rfl;have h1Z:=(((P.out.set (.slice none 0 0)).other (show n0≠n0+1 by omega) (.int .i64 0)).other (show n0≠n0+1+1 by omega) (.int .i64 6));have h2Z:=(((u.out.other (show n0+1≠n0 by omega) (.slice none 0 0)).set (.int .i64 0)).other (show n0+1≠n0+1+1 by omega) (.int .i64 6));have h3Z:=(((O.out.other (show n0+1+1≠n0 by omega) (.slice none 0 0)).other (show n0+1+1≠n0+1 by omega) (.int .i64 0)).set (.int .i64 6));have h4Z:=((hBZ.setCell (p:=⟨n0,0,none⟩) (Aa _) (.slice none 0 0)).setCell (p:=⟨n0+1,0,none⟩) ea (.int .i64 0)).setCell (p:=⟨n0+1+1,0,none⟩) la (.int .i64 6);refine⟨ea,.inl ⟨_,_,rfl,run_takeDeferred hK2,?_⟩⟩;have hd0:D≠n0:=aa
     have hd1:D≠n0+1:=aa
     have hd2:D≠n0+1+1:=aa
     have c1:=(ml hd0 h1Z (.deferred none)).cell;have c2:=(ml hd1 h2Z (.deferred none)).cell;have c3:=(ml hd2 h3Z (.deferred none)).cell;exact⟨_,KA c1 c2 c3,rfl,by rw[S];exact(h4Z.drew).trans (belowK_b (w:=w) hwn _ D _ _ aa hK2 rfl rfl)⟩
def ah{s}:(S s).data.toList=s:=by simp[S]
def OY(c):((c.toNat:Nat):Int).toNat.toUInt8=c:=by
 simp
def Ju{w}:Below w.heap.size w w:=Below.refl _ _
def one(v:Value):ve:=⟨[v],none,[]⟩
def zh(l:List Value):ve:=⟨l,none,[]⟩
variable {Γ:ue}
def uk{f}{spec}(g:Uj Tryz.prog f=true)(h:∀vs R,spec vs=some R->∃l,R=zh l/\(∀v∈l,yc v=true)/\∀w,Γ.G w->Calls Tryz.prog f vs.toArray w fun e w'=>e=.returned (eB l)/\Below w.heap.size w w'):gi Tryz.prog Γ f spec:=⟨g,fun vs R hs=>by
 obtain⟨l,rfl,a,b⟩:=h vs R hs;refine⟨⟨fun v j=>a v (by grind [zh]),fun c n z ty e=>by cases e⟩,fun w i=>(b w i).mono ?_⟩;rintro e w' ⟨rfl,d⟩;exact⟨.int .i64 0,by simp[zh,ve.vs],(fun c n z ty e=>by cases e),d⟩⟩
def aB:List Value->Option ve
 |[.string s,.int .u8 c]=>some (zh [.int .i64 (Lib.indexByte s.data.toList c.toNat.toUInt8)])
 |_=>none
def zfZ:gi Tryz.prog Γ 96 aB:=uk ca fun vs R h=>by
 unfold aB at h;split at h
 ·cases h
  exact⟨_,rfl,by simp[yc],fun w _=>(Tryz.strings_IndexByte _ _ w).mono (by rintro e w' ⟨rfl,rfl⟩;exact⟨rfl,Ju⟩)⟩
 grind
def fJ:List Value->Option ve
 |[.string s,.string p]=>some (zh [.bool (Lib.hasPrefix s.data.toList p.data.toList)])
 |_=>none
def zf1:gi Tryz.prog Γ 80 fJ:=uk ca fun vs R h=>by
 unfold fJ at h;split at h
 ·cases h
  exact⟨_,rfl,by simp[yc],fun w _=>(Tryz.strings_HasPrefix _ _ w).mono (by rintro e w' ⟨rfl,rfl⟩;exact⟨rfl,Ju⟩)⟩
 grind
def Ow:List Value->Option ve
 |[.string s]=>if s.size<=1000000 then some (zh [.string (S (ie s.data.toList))])else none
 |_=>none
def zfY:gi Tryz.prog Γ 79 Ow:=uk ca fun vs R h=>by
 unfold Ow at h;split at h
 ·split at h
  ·rename_i hs
   cases h;exact⟨_,rfl,by simp[yc],fun w _=>(LQ _ w hs).mono (by rintro e w' ⟨rfl,a⟩;exact⟨rfl,a⟩)⟩
  grind
 grind
def Iw:List Value->Option ve
 |[.string s,.string t]=>if s.size<=1000000/\t.size<=1000000 then some (zh [.bool (ie s.data.toList==ie t.data.toList)])else none
 |_=>none
def zfR:gi Tryz.prog Γ 140 Iw:=uk ca fun vs R h=>by
 unfold Iw at h;split at h
 ·split at h
  ·rename_i hs
   cases h;exact⟨_,rfl,by simp[yc],fun w _=>(xX _ _ w hs.1 hs.2).mono (by rintro e w' ⟨rfl,a⟩;exact⟨rfl,a⟩)⟩
  grind
 grind
def eJ:List Value->Option ve
 |[.string s,.string p]=>some (zh [.string ⟨(Lib.trimPrefix s.data.toList p.data.toList).toArray⟩,.bool (Lib.hasPrefix s.data.toList p.data.toList)])
 |_=>none
def zfS:gi Tryz.prog Γ 90 eJ:=uk ca fun vs R h=>by
 unfold eJ at h;split at h
 ·cases h
  exact⟨_,rfl,by simp[yc],fun w _=>(Tryz.strings_CutPrefix _ _ w).mono (by rintro e w' ⟨rfl,rfl⟩;exact⟨rfl,Ju⟩)⟩
 grind
def Mw:List Value->Option ve
 |[.string s]=>if s.size<=1000000 then some (match Je s.data.toList with
  |some t=>zh [.string (S t),.int .i64 0]
  |none=>zh [.string (S []),.int .i64 7])else none
 |_=>none
def zfW:gi Tryz.prog Γ 143 Mw:=uk ca fun vs R h=>by
 unfold Mw at h;split at h
 ·rename_i s
  split at h
  ·rename_i hs
   have a:=fun w=>u2 s w aa
   cases c:Je s.data.toList with
   |some t=>
    rw[c]at h a;cases h;exact⟨_,rfl,by simp[yc],fun w _=>(a w).mono (by rintro e w' ⟨rfl,b⟩;exact⟨rfl,b⟩)⟩
   |none=>
    rw[c]at h a;cases h;exact⟨_,rfl,by simp[yc],fun w _=>(a w).mono (by rintro e w' ⟨rfl,b⟩;exact⟨rfl,b⟩)⟩
  grind
 grind
def Jw:List Value->Option ve
 |[.string s,.string p]=>if s.size<=1000000000 then some (zh [.string ⟨(Lib.cut s.data.toList p.data.toList).1.toArray⟩,.string ⟨(Lib.cut s.data.toList p.data.toList).2.1.toArray⟩,.bool (Lib.cut s.data.toList p.data.toList).2.2])else none
 |_=>none
def zfU(a:∀w,Γ.G w->Bf w):gi Tryz.prog Γ 39 Jw:=uk ca fun vs R h=>by
 unfold Jw at h;split at h
 ·split at h
  ·rename_i hs
   cases h;refine⟨_,rfl,by simp[yc],fun w c=>?_⟩;obtain⟨m,b⟩:=a w c;exact(Tryz.strings_Cut _ _ m w aa b).mono (by rintro e w' ⟨rfl,n,rfl⟩;exact⟨rfl,Bs w n⟩)
  grind
 grind
def Pw:List Value->Option ve
 |[.string s,.string p]=>if s.size<=1000000000 then some (zh [.int .i64 (Lib.index s.data.toList p.data.toList)])else none
 |_=>none
def zf0(a:∀w,Γ.G w->Bf w):gi Tryz.prog Γ 146 Pw:=uk ca fun vs R h=>by
 unfold Pw at h;split at h
 ·split at h
  ·rename_i hs
   cases h;refine⟨_,rfl,by simp[yc],fun w c=>?_⟩;obtain⟨m,b⟩:=a w c;exact(Tryz.strings_Index _ _ m w aa b).mono (by rintro e w' ⟨rfl,rfl⟩;exact⟨rfl,Ju⟩)
  grind
 grind
def Qw:List Value->Option ve
 |[.string s,.string o,.string n]=>if s.size<=1000000/\1<=o.size/\n.size<=10 then some (zh [.string ⟨(Lib.replaceAll s.data.toList o.data.toList n.data.toList).toArray⟩])else none
 |_=>none
def zf2(b:∀w,Γ.G w->Bf w):gi Tryz.prog Γ 42 Qw:=uk ca fun vs R h=>by
 unfold Qw at h;split at h
 ·rename_i s o n
  split at h
  ·rename_i hs
   cases h;refine⟨_,rfl,by simp[yc],fun w i=>?_⟩;obtain⟨m,g⟩:=b w i;have d:=Lib.countB_le o hs.2.1 s.size s (Aa _);have a:=Nat.mul_le_mul aa hs.2.2;exact(Tryz.strings_ReplaceAll s o n m w aa g hs.2.1 aa).mono (by rintro e w' ⟨rfl,c⟩;exact⟨rfl,c⟩)
  grind
 grind
theorem b5:∀l,∀v∈Zd l,yc v=true/\v.oneCell'=true:=by
 intro l
 induction l with
 |nil=>grind [Zd]
 |cons a l b=>
  intro v h;simp only[Zd,xn,We,wb,ju,or_false]at h;rcases h with(rfl|rfl)|h
  ·exact⟨rfl,rfl⟩
  ·exact⟨rfl,rfl⟩
  ·exact b v h
theorem wQ:∀l,(Zd l).map PV.flat=Ig l
 |[]=>rfl
 |(a,b)::l=>by
  have h:=wQ l;simp only[Zd,xn,Xb,Fa,Ma,Ig]at h⊢;rw[h];rfl
def Rw:List Value->Option ve
 |[.string s]=>if s.size<=10000 then some (match Pg s.data.toList with
  | .form=>⟨[],some ([],0,2,60),[.int .i64 0,.int .i64 7]⟩
  | .long=>⟨[],some ([],0,2,60),[.int .i64 0,.int .i64 6]⟩
  | .ok l b=>⟨[],some (Zd l,l.length,2,60),[.int .i64 b,.int .i64 0]⟩)else none
 |_=>none
def zf3(i:∀w,Γ.G w->Bf w):gi Tryz.prog Γ 75 Rw:=⟨ca,fun vs R h=>by
 unfold Rw at h;split at h
 ·rename_i s
  split at h
  ·rename_i hs
   have a:=fun w k=>ze2 s w k hs
   cases j:Pg s.data.toList with
   |form=>
    rw[j]at h a;cases h;exact⟨⟨by simp[yc],fun c n z ty e=>by grind⟩,fun w g=>(a w (i w g)).mono (by rintro e w' ⟨rfl,d⟩;exact⟨.slice none 0 0,rfl,(fun c n z ty e=>by grind [World.ownsRow_nil]),d⟩)⟩
   |long=>
    rw[j]at h a;cases h;exact⟨⟨by simp[yc],fun c n z ty e=>by grind⟩,fun w g=>(a w (i w g)).mono (by rintro e w' ⟨rfl,d⟩;exact⟨.slice none 0 0,rfl,(fun c n z ty e=>by grind [World.ownsRow_nil]),d⟩)⟩
   |ok l b=>
    rw[j]at h a;cases h;exact⟨⟨by simp[yc],fun c n z ty e=>by grind [b5]⟩,fun w g=>(a w (i w g)).mono (by rintro e w' ⟨v,rfl,o,d⟩;exact⟨v,rfl,(fun c n z ty e=>by grind),d⟩)⟩
  grind
 grind⟩
def RE(o:Option Nat):Int:=match o with
 |some i=>(i:Int)
 |none=>-1
theorem RR(c):∀s:ba,Lib.indexByte s c=RE (Dc c s)
 |[]=>rfl
 |x::l=>by
  have h:=RR c l;unfold Lib.indexByte Dc;by_cases a:x=c
  ·grind [RE]
  ·have b:(x==c)=false:=by simpa using a
   rw[b,h,if_neg a];cases Dc c l<;>grind [RE]
def Kw:List Value->Option ve
 |[.string s,.string p]=>if s.size<=1000000000 then some (zh [.string ⟨(Lib.trimSuffix s.data.toList p.data.toList).toArray⟩,.bool (Lib.hasSuffix s.data.toList p.data.toList)])else none
 |_=>none
def zfT{Γ:ue}:gi Tryz.prog Γ 84 Kw:=uk ca fun vs R h=>by
 unfold Kw at h;split at h
 ·split at h
  ·rename_i hs
   cases h;exact⟨_,rfl,by simp[yc],fun w _=>(Tryz.strings_CutSuffix _ _ w aa).mono (by rintro e w' ⟨rfl,rfl⟩;exact⟨rfl,Ju⟩)⟩
  ·cases h
 ·cases h
def Lw:List Value->Option ve
 |[.string s]=>if s.size<=1000000 then some (match qf s.data.toList with
  |some t=>zh [.string (S t),.int .i64 0]
  |none=>zh [.string (S []),.int .i64 7])else none
 |_=>none
def zfV{Γ:ue}:gi Tryz.prog Γ 91 Lw:=uk ca fun vs R h=>by
 unfold Lw at h;split at h
 ·rename_i s
  split at h
  ·rename_i hs
   have a:=fun w=>CP s w aa
   cases c:qf s.data.toList<;>
    (rw[c]at h a
     cases h;exact⟨_,rfl,by simp[yc],fun w _=>(a w).mono (by rintro e w' ⟨rfl,b⟩;exact⟨rfl,b⟩)⟩)
  ·cases h
 ·cases h
def Sw:List Value->Option ve
 |[.string s,.string t]=>if t.data.toList=[32,9]then some (zh [.string (S (s.data.toList.dropWhile vc))])else none
 |_=>none
def zf5:gi Tryz.prog Γ 269 Sw:=uk ca fun vs R h=>by
 unfold Sw at h;split at h
 ·rename_i s t
  split at h
  ·rename_i ht
   cases h;have a:t=⟨#[32,9]⟩:=by rw[<-Fl t,ht];rfl
   subst a;refine⟨_,rfl,by simp[yc],fun w _=>?_⟩;have h:=Any.strings_TrimLeft_laid Tryz.W9 ca s ⟨#[32,9]⟩ w ha (ascii_of_all ha);rw[show(ByteArray.mk #[32,9]).data.toList=[32,9]from rfl,zhd]at h;exact h.mono (by rintro e w' ⟨rfl,b⟩;exact⟨rfl,b⟩)
  ·cases h
 ·cases h
end Go.Proofs.YtglaihdcndcmkaaGreatDoor
namespace ya
def r9{a b}(h:Pe a=Pe b):a=b:=by
 obtain⟨d,e,a3,a4⟩:=a;obtain⟨b1,g,i,j⟩:=b;simp only[Pe,Wr,PV.flat.injEq,Value.string.injEq,Value.int.injEq,true_and,and_true,Fx,Xr]at h;obtain⟨c,rfl,rfl,rfl⟩:=h;rw[Yb.1 c]
theorem kS:∀{l l'},gb l=gb l'->l=l'
 |[],[],_=>rfl
 |[],b::l',h=>by have:=congrArg List.length h;rw[Zj,Zj]at this;simp at this
 |a::l,[],h=>by have:=congrArg List.length h;rw[Zj,Zj]at this;simp at this
 |a::l,b::l',h=>by
  have c:=h;obtain⟨d,e⟩:=List.append_inj c rfl;rw[r9 d,kS e]
def Av(args:List PV)(d:Nat):Prop:=∃L:List Qa,L.length<=100000/\args=[.ga L.length (gb L)]/\ai L ([],0,0)=some ([],d,5)
def zd4{args}{d a}(h:Av args d)(k:Av args a):d=a:=by
 obtain⟨L,_,rfl,e⟩:=h;obtain⟨M,_,b,c⟩:=k;simp only[Wr,PV.ga.injEq,and_true]at b;rw[<-kS b.2,e]at c;simpa using c
open Classical in
noncomputable def Ew:Callee:=fun f args bx oc=>if h:f=282/\bx=[]/\oc=[]/\∃d,Av args d then some ([.flat (.int .i64 (choose h.2.2.2:Nat))],false,[],[])else none
def zd1:xq Ew:=fun l d a hs=>by
 have k:Av [.ga l.length (gb l)] d:=⟨l,a,rfl,hs⟩;unfold Ew;rw[dif_pos ⟨rfl,rfl,rfl,d,k⟩];rw[zd4 (uu (⟨d,k⟩:∃d,Av [.ga l.length (gb l)] d)) k]
def zd2{Γ}:Gb Tryz.prog Γ Ew:=by
 intro f args bx oc S os bx' oc' i;unfold Ew at i;split at i
 case isFalse=>cases i
 rename_i h;cases i;have O:=uu h.2.2.2;generalize Classical.choose h.2.2.2=d at*;obtain⟨rfl,rfl,rfl,_⟩:=h;obtain⟨L,b,rfl,hs⟩:=O;intro w Fr β vs G;refine enters_of ca ha ?_;have C:=G.args;simp only[ra]at C;obtain⟨v,r,rfl,H,rfl⟩:=C;simp only[Rd]at H;obtain⟨a,n,rfl,D,c⟩:=H;have M:SJ w a L:=by
  rcases c with⟨T,J⟩|⟨g,o,us,rfl,A,B,U⟩
  ·exact .inl (qz J)
  ·by_cases F:L=[]
   ·exact .inl F
   ·refine .inr ⟨g,o,rfl,?_,fun k t ht=>?_⟩
    ·obtain⟨t,j,rfl⟩:=List.exists_cons_of_ne_nil F
     obtain⟨v0,q,_⟩:=B.get 0 _ pa;exact eu w _ (A 0 v0 q).2
    ·have l:∀j p,(Pe t)[j]?=some p->∃v,w.cell? ⟨g,o+k* 4+j,none⟩=some v/\Rd w Fr β p v:=fun j p E=>by
      have P:=Nl ht;have:(gb L)[k* 4+j]?=some p:=by
       rw[<-lg,P,yl (qg E).1,E]
      obtain⟨v,q,K⟩:=B.get _ _ this;exact⟨v,by rw[Ij];exact(A _ v q).2,K⟩
     obtain⟨v0,I,u⟩:=l 0 _ rfl;obtain⟨V,c1,x⟩:=l 1 _ rfl;obtain⟨W,c2,y⟩:=l 2 _ rfl;obtain⟨v3,c3,z⟩:=l 3 _ rfl;simp only[Rd]at u x y z;obtain⟨rfl,_⟩:=u;obtain⟨rfl,_⟩:=x;obtain⟨rfl,_⟩:=y;obtain⟨rfl,_⟩:=z;exact⟨I,c1,c2,c3⟩
 refine(zd3 L a n w M b d hs).mono ?_;rintro e w' ⟨rfl,N⟩;obtain⟨R,Q⟩:=G.rel.grow N (Fr':=Fr) fun _ _=>rfl
 exact⟨_,Fr,β,rfl,by simp[Rc,Rd,yc],R,Q,(fun L h=>by cases h),fun h=>by cases h⟩
end ya
namespace Go.Proofs.YtglaihdcndcmkaaGreatDoor
def Nw:List Value->Option ve
 |[.string t,.int .i64 k]=>match uf (t.data.toList.drop k.toNat)with
  |some v=>if t.size<=100000/\t.data.toList[k.toNat]?=some 92/\v.2<=6/\0<=k then some (zh [.int .i32 (v.1:Nat),.int .i64 (v.2:Nat),.bool true])else none
  |none=>none
 |_=>none
def zfX{Γ:ue}{lib:ya.Callee}(b:Gb Tryz.prog Γ (da code lib))(a:kc lib):gi Tryz.prog Γ 285 Nw:=uk ca fun vs R h=>by
 unfold Nw at h;split at h
 ·rename_i t k
  split at h
  ·rename_i v i
   split at h
   ·rename_i d
    obtain⟨c1,c2,c3,c4⟩:=d;cases h;have g:((k.toNat:Nat):Int)=k:=aa
    exact⟨_,rfl,by simp[yc],fun w j=>by
     have h:=G3 b a t.data.toList t (Fl t) k.toNat v c1 c2 i c3 w j;rw[g]at h;exact h.mono (by rintro e w' ⟨rfl,c⟩;exact⟨rfl,c⟩)⟩
   ·cases h
  ·cases h
 ·cases h
def o4:Io Tryz.prog Lj 177 (Ej Ra):=⟨ca,fun vs v h=>by
 unfold Ej at h;split at h
 ·split at h
  ·rename_i hs
   cases h;refine⟨rfl,fun w b=>(s3 _ w hs).mono ?_⟩;rintro e w' ⟨rfl,a⟩;exact⟨by rw[m3 _ _ (Aa _)];rfl,a⟩
  ·cases h
 ·cases h⟩
def p4:Io Tryz.prog Lj 67 (Ej (eb 0)):=⟨ca,fun vs v h=>by
 unfold Ej at h;split at h
 ·split at h
  ·rename_i hs
   cases h;exact⟨rfl,fun w b=>(p3 _ w hs).mono (by rintro e w' ⟨rfl,a⟩;exact⟨rfl,a⟩)⟩
  ·cases h
 ·cases h⟩
noncomputable def Tw:List (FuncId×ya.Callee):=[(96,Kh 96 aB),(80,Kh 80 fJ),(79,Kh 79 Ow),(140,Kh 140 Iw),(90,Kh 90 eJ),(143,Kh 143 Mw),(39,Kh 39 Jw),(146,Kh 146 Pw),(42,Kh 42 Qw),(75,Kh 75 Rw),(269,Kh 269 Sw),(84,Kh 84 Kw),(91,Kh 91 Lw)]
noncomputable def Vv:ya.Callee:=Ut Tw
def fW:∀p∈Tw,Gb Tryz.prog Lj p.2:=fun p b=>by
 have a:∀w,Lj.G w->Bf w:=fun w h=>h.1
 simp only[Tw,wb,ju,or_false]at b;rcases b with rfl|rfl|rfl|rfl|rfl|rfl|rfl|rfl|rfl|rfl|rfl|rfl|rfl
 ·exact Hj ha zfZ
 ·exact Hj ha zf1
 ·exact Hj ha zfY
 ·exact Hj ha zfR
 ·exact Hj ha zfS
 ·exact Hj ha zfW
 ·exact Hj ha (zfU a)
 ·exact Hj ha (zf0 a)
 ·exact Hj ha (zf2 a)
 ·exact Hj ha (zf3 a)
 ·exact Hj ha zf5
 ·exact Hj ha zfT
 ·exact Hj ha zfV
def cH:Gb Tryz.prog Lj Vv:=hW fW
def lA{f}{c}{args}{bx}{oc}{r}(h:Tw.lookup f=some c)(k:c f args bx oc=some r):Vv f args bx oc=some r:=by
 unfold Vv;rw[gW h];exact k
def Jp:Jo Vv where
 idx s c hs:=lA rfl (by
  have h:=vl (k:=96) (spec:=aB) (args:=[.flat (.string (S s)),.flat (.int .u8 (c.toNat:Nat))]) rfl rfl;rw[h,ah,OY,RR];rfl)
 zW s:=lA rfl (by
  have h:=vl (k:=269) (spec:=Sw) (args:=[.flat (.string (S s)),.flat (.string (S [32,9]))]) rfl (by unfold Sw;dsimp only;rw[if_pos (ah (s:=[32,9])),ah]);rw[h];rfl)
 alike s t hs ht:=lA rfl (by
  have h:=vl (k:=140) (spec:=Iw) (args:=[.flat (.string (S s)),.flat (.string (S t))]) rfl (by unfold Iw;dsimp only;rw[Ua,Ua,if_pos ⟨hs,ht⟩,ah,ah]);rw[h];rfl)
 fold s hs:=lA rfl (by
  have h:=vl (k:=79) (spec:=Ow) (args:=[.flat (.string (S s))]) rfl (by unfold Ow;dsimp only;rw[Ua,if_pos hs,ah]);rw[h];rfl)
 cut s w hs:=lA rfl (by
  have h:=vl (k:=39) (spec:=Jw) (args:=[.flat (.string (S s)),.flat (.string (S w))]) rfl (by unfold Jw;dsimp only;rw[Ua,if_pos hs,ah,ah]);rw[h];rfl)
 pre s p hs hp:=pa
 dq s hs:=lA rfl (by
  have h:=vl (k:=143) (spec:=Mw) (args:=[.flat (.string (S s))]) rfl (by unfold Mw;dsimp only;rw[Ua,if_pos hs,ah]);rw[h];cases Je s<;>rfl)
 Mk s w hs:=pa
 ind s w hs:=lA rfl (by
  have h:=vl (k:=146) (spec:=Pw) (args:=[.flat (.string (S s)),.flat (.string (S w))]) rfl (by unfold Pw;dsimp only;rw[Ua,if_pos hs,ah,ah]);rw[h];rfl)
 WA s hs:=lA rfl (by
  have h:=vl (k:=75) (spec:=Rw) (args:=[.flat (.string (S s))]) rfl (by unfold Rw;dsimp only;rw[Ua,if_pos hs,ah])
  grind [ve.si,wQ])
noncomputable def gJ(pl:ya.Callee):List (FuncId×ya.Callee):=[(19,pl),(93,Vo),(46,Vo),(162,dw),(282,Ew),(285,Kh 285 Nw),(157,Pk (vj 157 QA)),(158,Pk (vj 158 OA)),(232,Pk (vj 232 (Ej Ra))),(99,Pk (vj 99 (Ej (eb 0)))),(177,Pk (vj 177 (Ej Ra))),(67,Pk (vj 67 (Ej (eb 0))))]++Tw
noncomputable def Ip(pl:ya.Callee):ya.Callee:=Ut (gJ pl)
variable {pl:ya.Callee}
def j_(b:Gb Tryz.prog Lj pl):Gb Tryz.prog Lj (Ip pl):=hW fun p a=>by
 rcases We.1 a with a|a
 ·simp only[wb,ju,or_false]at a
  rcases a with rfl|rfl|rfl|rfl|rfl|rfl|rfl|rfl|rfl|rfl|rfl|rfl
  ·exact b
  ·exact SK
  ·exact SK
  ·exact zaa
  ·exact zd2
  ·exact Hj ha (zfX (pv Tryz.checked.mixed ca Ns cH) Jp.pre)
  ·exact xt ha l4
  ·exact xt ha k4
  ·exact xt ha j4
  ·exact xt ha m4
  ·exact xt ha o4
  ·exact xt ha p4
 ·exact fW p a
def ak{f:FuncId}{c:ya.Callee}{args:List PV}{bx:Na}{oc:List ya.Loc}{r:ya.Ye}(h:(gJ pl).lookup f=some c)(k:c f args bx oc=some r):Ip pl f args bx oc=some r:=by
 unfold Ip;rw[gW h];exact k
def C9:Qb (Ip pl):=fun f args bx oc r h=>by
 have a:f=93\/f=46:=by
  unfold Vo at h;split at h
  ·grind
  ·grind
 rcases a with rfl|rfl
 ·exact ak rfl h
 ·exact ak rfl h
def Sy{f:FuncId}{e:ba->ba}(h:(gJ pl).lookup f=some (Pk (vj f (Ej e))))(s:ba)(hs:s.length<=1000000):Ip pl f [.flat (.string (S s))] [] []=some ([.flat (.string (S (e s)))],false,[],[]):=ak h (cI rfl (by grind [Ej,Ua,YJ]))
def i_(a:js pl):wq (Ip pl) where
 b64 s hs:=⟨by grind [cE],Sy rfl s aa⟩
 qp s hs:=⟨by grind [Ts],Sy rfl s aa⟩
 JU s hs:=⟨by grind [cE],Sy rfl s aa⟩
 rq s hs:=Sy rfl s aa
 idx s c hs:=Jp.idx s c hs
 last s c hs:=ak rfl (cI rfl (by unfold QA;dsimp only;rw[if_pos (by grind [Ua]),D9];rfl))
 dP s hs:=ak rfl (cI rfl (by grind [OA,Ua,YJ,RV]))
 pre s p hs a:=Jp.pre s p hs a
 bld:=C9
 nest L hL:=ak rfl (Z_ L hL)
 parse m hm:=ak rfl (a m hm)
 cut s w hs:=Jp.cut s w hs
 Mk s w hs:=Jp.Mk s w hs
 rep s o n hs ho hn:=ak rfl (by
  have h:=vl (k:=42) (spec:=Qw) (args:=[.flat (.string (S s)),.flat (.string (S o)),.flat (.string (S n))]) rfl (by unfold Qw;dsimp only;rw[Ua,Ua,Ua,if_pos ⟨hs,ho,hn⟩,ah,ah,ah]);rw[h];rfl)
 Tq s w hs:=ak rfl (by
  have h:=vl (k:=84) (spec:=Kw) (args:=[.flat (.string (S s)),.flat (.string (S w))]) rfl (by unfold Kw;dsimp only;rw[Ua,if_pos hs,ah,ah]);rw[h];rfl)
 dec s hs:=ak rfl (by
  have h:=vl (k:=91) (spec:=Lw) (args:=[.flat (.string (S s))]) rfl (by unfold Lw;dsimp only;rw[Ua,if_pos hs,ah]);rw[h];cases qf s<;>rfl)
 shape l d hl hs:=ak rfl (zd1 l d hl hs)
 ind s w hs:=Jp.ind s w hs
 nv s k v hs hc hv h6:=ak rfl (by
  have h:=vl (k:=285) (spec:=Nw) (args:=[.flat (.string (S s)),.flat (.int .i64 (k:Nat))]) rfl (by unfold Nw;dsimp only;rw[ah,gc,hv];dsimp only;rw[Ua,if_pos ⟨hs,hc,h6,aa⟩]);rw[h];rfl)
def zaG(a:Gb Tryz.prog Lj pl):Gb Tryz.prog Lj (da code (Ip pl)):=pv Tryz.checked.mixed ca Ns (j_ a)
end Go.Proofs.YtglaihdcndcmkaaGreatDoor
namespace ya
variable {H:Type} {enc:TypeId × Value→H}
def zdx{a}{C}{os}{f}{fn}{s}{g}{b fresh d k}{X:World->Array Value->Prop}
 (H:∀(w w')(args),w.heap=w'.heap->X w args->X w' args)
 (own:ownKnob C.prog.godebug=none) (l:os.Started) (p:C.prog.inits.idxOf? f=none) (z:C.prog.funcs[f]?=some fn)
 (n:∃(w:World)(tape:Tape)(i:Input),w.os=os/\(w.forCall tape i).Shaped C.prog/\i.vars=[]/\Input.okWide C.prog (w.forCall tape i) .any w.heap.size f i/\
   ((s.pre enc C.prog fn g b (w.forCall tape i).memory i.args/\X (w.forCall tape i).memory i.args)/\sizedMet enc C.prog fn (OpenSpec.ofChange s) b (w.forCall tape i).memory i.args)/\a.holds C.prog (lone (Frame.enter C.prog f i.args .normal) [] (w.forCall tape i)))
 (h:∀(W)(base)(args)(q r)(c),
   (∀(j:Nat) t v,fn.params[j]?=some t->args[j]?=some v->Value.okWide C.prog W .any base t v)->
   DataW.Whole enc C.prog fn.params.toList s.vars b W args.toList q r c->
   g.all (PathCond.test C.prog ⟨fn.params.toList,q,s.plain.varTypes C.prog,r⟩)=true->
   (DataW.weightsEach C.prog (fn.params.toList++s.plain.varTypes C.prog) (q++r)).all (·<=reachBytes)=true->X W args->
   W.ShapedOpen C.prog->
   a.holds C.prog (lone (Frame.enter C.prog f args .normal) [] W)->
   Calls C.prog f args W fun e E=>∃v,e=.returned v/\s.post enc C.prog fn b fresh d k W args v E):
 ReturnsInHanded a C os f .any (fun w args=>(s.pre enc C.prog fn g b w args/\X w args)/\sizedMet enc C.prog fn (OpenSpec.ofChange s) b w args) (s.post enc C.prog fn b fresh d k):=by
 refine returnsInHanded_of_calls own l p n ?_;intro w tape i _ B _ A x o;obtain⟨_,_,_,G,u,_,_,_,_,y⟩:=A;have e:=Xe (u.symm.trans z);subst e;obtain⟨⟨⟨q,r,c,F,I⟩,L⟩,M⟩:=x;have D:=DataW.Whole.of_heap (w':=w.forCall tape i) pa F;refine(h (w.forCall tape i) w.heap.size i.args q r c y D I (M.weights F) (H _ _ _ pa L) B o).mono fun e E ⟨v,J,K⟩=>?_
 subst J;exact ChangeSpec.post_blind K
def lZ{H}{enc:TypeId×Value->H}{P}{w}{base}{r}{held}{fuel}{t e}{n}{cs}{zs:List (List UInt8)}{p}
 (ht:P.underlying t=some (.array n e)) (o:P.underlying e=some .string) (hce:P.cellsOf e=1)
 (h:DataW.trod enc P w base r held fuel t cs=some (.agg (zs.map fun z=>.lit (.string z)),p)) (i:Nat) (z) (l:zs[i]?=some z):cs[i]?=some (.string ⟨z.toArray⟩):=by
 obtain⟨xs,m,rfl,d,u,v,c⟩:=DataW.trod_array ht h;simp only[Prod.mk.injEq,DataW.agg.injEq]at d;have q:i<n:=by
  have g:zs.length=xs.length:=by simpa using congrArg List.length d.1
  have b:=(qg l).1;omega
 have a:=c i q;rw[hce,Nat.mul_one]at a;obtain⟨y,k⟩:∃y,xs[i]?=some y:=⟨_,qe aa⟩;rw[k]at a;obtain⟨s,g,rfl,_⟩:=DataW.trod_string o a;have b:(xs.map (·.1))[i]?=some (.lit (.string s.data.toList)):=by simp[k]
 rw[<-d.1]at b;simp[l]at b;have j:=congrArg (·[0]?) g;simp[lg]at j;rw[j,b]
end ya
namespace Go.Proofs.YtglaihdcndcmkaaGreatDoor
open Go.ChangeShapes Go.WideShapes Go.ChangeAt
def J5:Tryz.prog.globalNamed "nuncio/b64.table"=some 3:=ca
def zf4:(Tryz.prog.globals[3]?).map (·.type)=some 332:=ca
def EY:Tryz.prog.cellsOf 9=1:=ca
open Go.ChangeShapes Go.WideShapes Go.ChangeAt
abbrev KB:List (String×DataW Unit):=[("unicode/utf8.acceptRanges",Rows.laid_unicode_utf8_acceptRanges),("nuncio/b64.table",Rows.laid_nuncio_b64_table),("unicode/utf8.first",Rows.laid_unicode_utf8_first)]
noncomputable def pS(os:Os):World:=
 let w0:=World.doorLaid Tryz.prog 400 os
 {w0 with heap:=w0.heap.modify 1 fun
  | .cells _ t frozen=>.cells (Lib.firstTab.map fun z=>Value.int .u8 z).toArray t frozen
  |o=>o}
def H2(os)(args):laidMetH Tryz.prog KB ((pS os).forCall (fun _ _=>0) ⟨#[],args,[]⟩).memory:=
 laidMetH_of_parts3 (fuel:=8) (laidMet_of_run' 8 ca ca) ca ca
def zf9{W}(h:laidMetH Tryz.prog KB W):xm W:=by
 rw[MakeChecks.laidMetH_plain _ _ _ ca]at h;obtain⟨ps,⟨_,_,_,_,_,_,_,_,_,_,⟨l,t0,e,k,n,o,a,c,d,b,_,_⟩,_⟩,_,_⟩:=h;obtain rfl:=Xe (J5.symm.trans a);obtain rfl:=Xe (zf4.symm.trans c);intro i j;have hr:([sk 0,sk 1,sk 2,sk 3]:List (List UInt8))[i]?=some (sk i):=by
  match i,j with
  |0,_=>rfl
  |1,_=>rfl
  |2,_=>rfl
  |3,_=>rfl
 have:=lZ (zs:=[sk 0,sk 1,sk 2,sk 3]) Tryz.underlying332 Tryz.underlying9 EY b i _ hr;have g:=World.var?_cell a d i;rw[g];simpa using this
end Go.Proofs.YtglaihdcndcmkaaGreatDoor
namespace ya
set_option synthInstance.maxSize 4000
set_option maxRecDepth 100000
def q4{W:World}(a:laidMetH Tryz.prog KB W)(h:W.ShapedOpen Tryz.prog):JB W:=
 ⟨Go.Proofs.cell_of_shapedOpen_int (zero:=#[.int .i64 0]) (t:=3) h (of_decide_eq_true ca) ca rfl ca ca Tryz.underlying3,zf9 a⟩
def bq{n:Nat}{ps:List PV}(h:fit Tryz.prog n 9 ps):∃s:ba,ps=[.flat (.string (S s))]/\s.length<=9223372036854775807:=by
 cases n with
 |zero=>cases h
 |succ n=>
  simp only[fit,Tryz.underlying9]at h;obtain⟨s,rfl,hs⟩:=h;refine⟨s.data.toList,rfl,?_⟩;have:s.data.toList.length=s.size:=rfl;rw[this];unfold maxLen at hs;omega
def V4{n:Nat}{ps:List PV}(h:fit Tryz.prog n 23 ps):∃m:tc,ps=xc m/\m.fr.length<=9223372036854775807/\m.to.length<=9223372036854775807/\m.su.length<=9223372036854775807/\m.te.length<=9223372036854775807/\m.ht.length<=9223372036854775807:=by
 cases n with
 |zero=>cases h
 |succ n=>
  simp only[fit,Tryz.underlying23]at h;obtain⟨i,rfl,q,g⟩:=h;obtain⟨a,b,c,d,e,rfl⟩:∃a b c d e,i=[a,b,c,d,e]:=by
   match i,q with
   |[a,b,c,d,e],_=>exact⟨a,b,c,d,e,rfl⟩
  obtain⟨r,rfl,j⟩:=bq (g 0 _ a rfl rfl);obtain⟨s1,rfl,k⟩:=bq (g 1 _ b rfl rfl);obtain⟨t,rfl,l⟩:=bq (g 2 _ c rfl rfl);obtain⟨u,rfl,o⟩:=bq (g 3 _ d rfl rfl);obtain⟨v,rfl,p⟩:=bq (g 4 _ e rfl rfl);exact⟨⟨r,s1,t,u,v⟩,rfl,j,k,l,o,p⟩
def S4{n:Nat}{p:PV}(h:Ll Tryz.prog n 23 p):∃m:tc,p=.agg (xc m)/\m.fr.length<=9223372036854775807/\m.to.length<=9223372036854775807/\m.su.length<=9223372036854775807/\m.te.length<=9223372036854775807/\m.ht.length<=9223372036854775807:=by
 simp only[Ll,Tryz.underlying23]at h;obtain⟨ps,rfl,h⟩:=h;obtain⟨m,rfl,a⟩:=V4 h;exact⟨m,rfl,a⟩
def VK{n:Nat}{ps:List PV}(h:fit Tryz.prog n 4 ps):∃b:Bool,ps=[.flat (.bool b)]:=by
 cases n with
 |zero=>cases h
 |succ n=>
  simp only[fit,Tryz.underlying4]at h;obtain⟨b,rfl⟩:=h;exact⟨b,rfl⟩
def U4{n:Nat}{ps:List PV}(h:fit Tryz.prog n 40 ps):∃(f:Bool)(rc bd:ba),ps=Jd f rc bd/\rc.length<=9223372036854775807/\bd.length<=9223372036854775807:=by
 cases n with
 |zero=>cases h
 |succ n=>
  simp only[fit,Tryz.underlying40]at h;obtain⟨d,rfl,j,e⟩:=h;obtain⟨a,b,c,rfl⟩:∃a b c,d=[a,b,c]:=by
   match d,j with
   |[a,b,c],_=>exact⟨a,b,c,rfl⟩
  obtain⟨f,rfl⟩:=VK (e 0 _ a rfl rfl);obtain⟨s1,rfl,g⟩:=bq (e 1 _ b rfl rfl);obtain⟨k,rfl,i⟩:=bq (e 2 _ c rfl rfl);exact⟨f,s1,k,rfl,g,i⟩
def R4{n:Nat}{p:PV}(h:Ll Tryz.prog n 40 p):∃(f:Bool)(rc bd:ba),p=.agg (Jd f rc bd)/\rc.length<=9223372036854775807/\bd.length<=9223372036854775807:=by
 simp only[Ll,Tryz.underlying40]at h;obtain⟨ps,rfl,h⟩:=h;obtain⟨f,rc,bd,rfl,a⟩:=U4 h;exact⟨f,rc,bd,rfl,a⟩
variable {lib:Callee}
def wl(a:List ba)(t:Qh):List ba:=a++[t.val]
def iq(a:List ba)(t:Tok):List ba:=t.Kk.foldl wl (if t.kind=116 then a++[t.text]else a)
def Cr(m:tc)(l:List Tok):List ba:=l.foldl iq [m.fr,m.to,m.su,m.te,m.ht]
def zdR:va []=[]:=rfl
def zdQ(a:ba)(l:List ba):va (a::l)=.flat (.string (S a))::va l:=rfl
theorem xQ:∀(l:List Qh)(a:List ba),(l.foldl wl a).length=a.length+l.length
 |[],a=>rfl
 |t::l,a=>by rw[Pf,xQ l];simp[wl];omega
theorem yQ:∀(l:List Qh)(a:List ba),∃r,l.foldl wl a=a++r
 |[],a=>⟨[],ea⟩
 |t::l,a=>by
  obtain⟨r,h⟩:=yQ l (wl a t);exact⟨t.val::r,by rw[Pf,h];simp[wl]⟩
theorem CQ:∀(l:List Tok)(a:List ba),∃r,l.foldl iq a=a++r
 |[],a=>⟨[],ea⟩
 |t::l,a=>by
  obtain⟨r,h⟩:=CQ l (iq a t);obtain⟨q,k⟩:=yQ t.Kk (if t.kind=116 then a++[t.text]else a);rw[Pf,h];unfold iq;rw[k];split
  ·exact⟨t.text::(q++r),ea⟩
  ·exact⟨q++r,ea⟩
abbrev tB(c:Nat)(e g:ba)(d:List Qh)(a b:Nat):Nat×List PV:=(190,[.flat (.int .u8 (c:Nat)),.flat (.string (S e)),.flat (.string (S g)),.ga d.length (uc d),.flat (.int .i64 (a:Nat)),.flat (.int .i64 (b:Nat))])
theorem zhw(m:tc)(l:List Tok)(c:Nat)(k p:ba)(a' e:Nat)(n:Nat)(cs:List PV)(z:∀n,Ia n cs=true)(j:Nat)(d:List Qh)(y:d.length<=300)(out:List ba)(D:out.length<=900000):
 Cc (oa (da code lib) ia dy) [0,34,35,36,51,52,53] 4 ia ⟨[(0,.Oa 2),(34,.ga n cs),(35,.flat (.int .i64 (n:Nat))),(36,.flat (.int .i64 (j:Nat))),(51,.ga d.length (uc d)),(52,.flat (.int .i64 (d.length:Nat))),(53,.flat (.int .i64 0))],[.cell 0 0],[],de (Qe m l) out [tB c k p d a' e]⟩
  =some (.exit 4,⟨[(0,.Oa 2),(34,.ga n cs),(35,.flat (.int .i64 (n:Nat))),(36,.flat (.int .i64 (j:Nat)))],[.cell 0 0],[],de (Qe m l) (d.foldl wl out) [tB c k p d a' e]⟩):=by
 have B:=fun n=>Ld (n:=n) d
 have A:=fun n=>gm (n:=n) l
 have hrel:=Yn (body:=oa (da code lib) ia dy) (live:=[0,34,35,36,51,52,53]) (nb:=4) (fun(_:Unit)(q:List ba×Nat)=>(⟨[(0,.Oa 2),(34,.ga n cs),(35,.flat (.int .i64 (n:Nat))),(36,.flat (.int .i64 (j:Nat))),(51,.ga d.length (uc d)),(52,.flat (.int .i64 (d.length:Nat))),(53,.flat (.int .i64 (q.2:Nat)))],[.cell 0 0],[],de (Qe m l) q.1 [tB c k p d a' e]⟩:St))
  (ug wl d) [] (fun r o st=>o=.exit 4/\st=⟨[(0,.Oa 2),(34,.ga n cs),(35,.flat (.int .i64 (n:Nat))),(36,.flat (.int .i64 (j:Nat)))],[.cell 0 0],[],de (Qe m l) r [tB c k p d a' e]⟩) (fun q=>q.2<=d.length/\q.1.length<=out.length+q.2) (fun q=>d.length - q.2) (fun _ ⟨w,i⟩ u=>?_) (fun a b u h=>?_) (n:=d.length+1) (m:=ia) () (out,0) ⟨Ab _,ea⟩ aa (by grind [ia])
 ·obtain⟨o,st,g,rfl,rfl⟩:=hrel
  rw[Bp aa,zf]at g;exact g
 ·dsimp only at u⊢
  unfold ug;dsimp only;cases g:d[i]? with
  |none=>
   have:=Bl.1 g;simp only[Qe,xc,Fa,Ma];exact Kb dU @de.eq_1
  |some t=>
   have fa:=(qg g).1;have e1:=RB g;have r1:=im (lib:=lib) (H:=Qe m l) (out:=w) (x:=t.val) (ys:=[tB c k p d a' e,(282,fb t)]) aa;have C:=fun n L=>ed (n:=n) L
   clear g;obtain⟨a,v,fr,E⟩:=t;refine⟨(),?_⟩;unfold wl;simp only[fb,Qe,xc,Fa,Ma,de]at e1 r1⊢;exact ua dU
 ·obtain⟨C,g,t,ht,v⟩:=gr a b h
  rw[g,v];unfold wl;simp only[Da,sa,Ca];omega
def zgk(m:tc)(l:List Tok)(D:l.length<=1000)(hs:∀t∈l,Nt 300 t):da code lib 314 [.Oa 2,.ptr 1 0] (de (Qe m l) [] []) [.cell 0 0]=some ([],false,de (Qe m l) (Cr m l) [],[.cell 0 0]):=by
 have A:za=4294967296:=rfl;have v:=fun n=>gm (n:=n) l
 have k:Ia 3 (Qe m l).2=true:=by simp only[xc,Fa,Ma,Ia,PV.low,v,Bg]
 have hrel:=Yn (body:=oa (da code lib) ia PC) (live:=[0,34,35,36]) (nb:=3) (fun(_:Unit)(q:List ba×Nat)=>(⟨[(0,.Oa 2),(34,.ga l.length (qc l)),(35,.flat (.int .i64 (l.length:Nat))),(36,.flat (.int .i64 (q.2:Nat)))],[.cell 0 0],[],de (Qe m l) q.1 []⟩:St))
  (ug iq l) [] (fun r o st=>o=.exit 2/\st=⟨[],[.cell 0 0],[],de (Qe m l) r []⟩) (fun q=>q.2<=l.length/\q.1.length<=301* q.2+5) (fun q=>l.length - q.2) (fun _ ⟨out,j⟩ B=>?_) (fun a b d h=>?_) (n:=l.length+1) (m:=ia) () ([m.fr,m.to,m.su,m.te,m.ht],0) ⟨Ab _,ea⟩ aa (by grind [ia])
 ·obtain⟨o,st,d,rfl,rfl⟩:=hrel
  rw[Bp aa,zf]at d;have r1:=im (lib:=lib) (H:=Qe m l) (out:=[]) (x:=m.fr) (ys:=[]) ea;have r2:=im (lib:=lib) (H:=Qe m l) (out:=[m.fr]) (x:=m.to) (ys:=[]) ea;have r3:=im (lib:=lib) (H:=Qe m l) (out:=[m.fr,m.to]) (x:=m.su) (ys:=[]) ea;have r4:=im (lib:=lib) (H:=Qe m l) (out:=[m.fr,m.to,m.su]) (x:=m.te) (ys:=[]) ea;have r5:=im (lib:=lib) (H:=Qe m l) (out:=[m.fr,m.to,m.su,m.te]) (x:=m.ht) (ys:=[]) ea;unfold Cr;generalize l.foldl iq [m.fr,m.to,m.su,m.te,m.ht]=L at*;have w:=fun n=>ed (n:=n) L
  clear hs;simp only[de,Qe,xc,n0,zdQ,zdR,Ma,Fa,Ca,sa,Zc,Nat.reduceAdd]at d r1 r2 r3 r4 r5⊢;simp only[lc,Bb,Nat.reduceAdd]at d;refine ja Y0 (qa rfl) ?_;exact mj @lc @Bb @Mb @Zb zaQ
 ·dsimp only at B⊢
  unfold ug;dsimp only;cases g:l[j]? with
  |none=>
   have:=Bl.1 g;clear hs;simp only[Qe,xc,Fa,Ma]at k⊢;exact Kb VH @de.eq_1
  |some t=>
   have fa:=(qg g).1;have e1:=iJ g;have e:=hs t (di g);have r1:=im (lib:=lib) (H:=Qe m l) (out:=out) (x:=t.text) (ys:=[(190,wa t)]) aa;have d:=fun out h=>zhw (lib:=lib) m l t.kind.toNat t.name t.text t.fr t.to l.length (qc l) v j t.Kk e.2.1 out h
   have C:=fun n L=>ed (n:=n) L
   have w:=fun n=>Ld (n:=n) t.Kk
   have p:=e.2.1;clear hs g e;obtain⟨c,E,z,y,fr,F⟩:=t;dsimp only at d w p⊢;unfold iq;dsimp only;refine⟨(),?_⟩;by_cases g1:c=116
   ·subst g1
    rw[if_pos rfl];have u:=d (out++[z]) (by simp only[sa,Da,Ca];omega);clear d;generalize y.foldl wl (out++[z])=L at*;simp only[wa,Qe,tB,xc,de,Fa,Ma,show((UInt8.toNat 116:Nat):Int)=116 from rfl]at e1 r1 u k⊢;exact ua VH
   ·have i:=toNat_ne g1
    simp only[show((UInt8.toNat 116:Nat):Int)=116 from rfl]at i;rw[if_neg g1];have u:=d out aa;clear d r1;generalize y.foldl wl out=L at*;simp only[wa,Qe,tB,xc,de,Fa,Ma]at e1 u k⊢;exact ua VH
 ·obtain⟨g,d,t,ht,e⟩:=gr a b h
  have:=(hs t (di ht)).2.1;rw[d,e];unfold iq;rw[xQ];split
  ·simp only[Da,sa,Ca];omega
  ·omega
def zgo{m:tc}{l:List Tok}{y:ba}(a:l.length<=1000)(hs:∀t∈l,Nt 300 t)
 (hr:da code lib 24 [.flat (.int .i64 1),.flat (.string (S y))] [] []=some ([.tag 245 [.agg (xc m++[.ga l.length (qc l)])],.flat (.int .i64 0)],false,[],[])):
 da code lib 10 [.flat (.int .i64 1),.flat (.string (S y))] [] []=some ([.ga (Cr m l).length (va (Cr m l)),.flat (.int .i64 0)],false,[],[]):=by
 have e:(⟨#[]⟩:ByteArray)=S []:=rfl;have b:=fun n=>gm (n:=n) l
 have c:=Vw l;have e1:da code lib 313 [.agg (xc m++[.ga l.length (qc l)])] [] []=some ([.cb 314 [.ptr 0 0]],false,[Qe m l],[]):=by
  simp only[Qe,xc,Fa,Ma];exact xa PO
 have e2:da code lib 313 [.agg (xc m++[.ga l.length (qc l)])] [(29,[.ga 0 []])] [.cell 0 0]=some ([.cb 314 [.ptr 1 0]],false,[(29,[.ga 0 []]),Qe m l],[.cell 0 0]):=by
  simp only[Qe,xc,Fa,Ma];exact xa PO
 have e3:=zgk (lib:=lib) m l a hs;have d:=fun n=>ed (n:=n) (Cr m l)
 generalize Cr m l=L at*;clear hs;simp only[de,Qe,xc,Fa,Ma,show va []=[]from rfl,Ca]at e1 e2 e3 hr;exact xa Qq
abbrev ww(t:ba)(l:Bool):Nat×List PV:=(129,[.flat (.string (S t)),.flat (.bool l)])
def zgp{t y:ba}{l:Bool}(hr:da code lib 59 [.flat (.string (S y))] [] []=some ([.agg [.flat (.string (S t)),.flat (.bool l)],.flat (.int .i64 0)],false,[],[])):
 da code lib 10 [.flat (.int .i64 3),.flat (.string (S y))] [] []=some ([.ga 1 [.flat (.string (S t))],.flat (.int .i64 0)],false,[],[]):=by
 have b:(⟨#[]⟩:ByteArray)=S []:=rfl;have a:da code lib 24 [.flat (.int .i64 3),.flat (.string (S y))] [] []=some ([.tag 259 [.agg [.flat (.string (S t)),.flat (.bool l)]],.flat (.int .i64 0)],false,[],[]):=xa Ps;have e1:da code lib 319 [.agg [.flat (.string (S t)),.flat (.bool l)]] [] []=some ([.cb 320 [.ptr 0 0]],false,[ww t l],[]):=xa QO;have e2:da code lib 319 [.agg [.flat (.string (S t)),.flat (.bool l)]] [(29,[.ga 0 []])] [.cell 0 0]=some ([.cb 320 [.ptr 1 0]],false,[(29,[.ga 0 []]),ww t l],[.cell 0 0]):=xa QO;have r1:=im (lib:=lib) (H:=ww t l) (out:=[]) (x:=t) (ys:=[]) ea;simp only[de,va,Xb,Fe,Ma,Ca,sa,Zc]at r1;have e3:da code lib 320 [.Oa 2,.ptr 1 0] [(29,[.ga 0 []]),ww t l,(0,[.lp 10 0 .ready [8] [.ptr 0 0]])] [.cell 0 0]=some ([],false,[(29,[.ga 1 [.flat (.string (S t))]]),ww t l,(0,[.lp 10 0 .ready [8] [.ptr 0 0]])],[.cell 0 0]):=xa a1;clear hr r1;exact xa Qq
def Du(lib:Callee):Prop:=lib 19 [.flat (.string (S []))] [] []=some ([.agg zP,.flat (.int .i64 7)],false,[],[])
def k3(H:Du lib):da code lib 7 [.flat (.string (S []))] [] []=some ([.agg (xc ⟨[],[],[],[],[]⟩),.flat (.int .i64 7)],false,[],[]):=by
 have a:(⟨#[]⟩:ByteArray)=S []:=rfl;have e1:da code lib 19 [.flat (.string (S []))] [] []=some ([.agg zP,.flat (.int .i64 7)],false,[],[]):=tf ha ca H;unfold zP at e1;unfold xc;exact xa xO
def zgn(H:Du lib)(b:kc lib)(a:Qb lib):da code lib 10 [.flat (.int .i64 1),.flat (.string (S []))] [] []=some ([.ga 0 [],.flat (.int .i64 7)],false,[],[]):=by
 have d:(⟨#[]⟩:ByteArray)=S []:=rfl;have e1:=k3 H;have e2:=jJ b a [] ea;rw[show Wi []=some []from rfl]at e2;have c:da code lib 24 [.flat (.int .i64 1),.flat (.string (S []))] [] []=some ([.tag 245 [.agg (xc ⟨[],[],[],[],[]⟩++[.ga 0 []])],.flat (.int .i64 7)],false,[],[]):=by
  clear H b a;unfold xc at e1⊢;simp only[qc,mg,Ca,Fa,Ma]at e1 e2⊢;exact xa Ps
 clear e1 e2 H b a;simp only[xc,Fa,Ma]at c;exact xa Qq
def a6(a:Yg lib):da code lib 57 [.flat (.string (S []))] [] []=some ([.agg [.flat (.bool false),.flat (.string (S [])),.flat (.string (S []))],.flat (.int .i64 7)],false,[],[]):=by
 have c:(⟨#[]⟩:ByteArray)=S []:=rfl;have e1:=Vt a (l:=[]) (w:=[123,34,114,101,99,101,105,118,101,114,34,58,34]) (r:=[]) (f:=false) (rc:=[]) (bd:=[]) ea (b:=false) rfl rfl;have e2:da code lib 113 [.ptr 1 0] (wB [] false [] []) []=some ([.flat (.bool false)],false,wB [] false [] [],[]):=by
  simp only[wB,Fa,Ma]at e1⊢;exact xa ZO
 clear a e1;simp only[wB]at e2;refine ja YO (qa rfl) ?_;exact Cp @lc @Bb @Mb @Zb @Wc eU @BEq.rfl.{0}
def zgm(c:Ge lib)(d:kc lib)(a:Qb lib)(b:Yg lib):da code lib 10 [.flat (.int .i64 2),.flat (.string (S []))] [] []=some ([.ga 0 [],.flat (.int .i64 7)],false,[],[]):=by
 have g:(⟨#[]⟩:ByteArray)=S []:=rfl;have e1:=a6 b;have e2:=lJ c d a (s:=[]) ea (show nh []=some []from rfl);have e:da code lib 24 [.flat (.int .i64 2),.flat (.string (S []))] [] []=some ([.tag 255 [.agg [.flat (.bool false),.flat (.string (S [])),.flat (.string (S [])),.ga 0 []]],.flat (.int .i64 7)],false,[],[]):=by
  clear c d a b;simp only[gb,mg,Ca]at e2;exact xa Ps
 clear e1 e2 c d a b;exact xa Qq
def zgl(a:Yg lib)(b:Nj lib):da code lib 10 [.flat (.int .i64 3),.flat (.string (S []))] [] []=some ([.ga 0 [],.flat (.int .i64 7)],false,[],[]):=by
 have d:(⟨#[]⟩:ByteArray)=S []:=rfl;have e1:=zda a b;have c:da code lib 24 [.flat (.int .i64 3),.flat (.string (S []))] [] []=some ([.tag 259 [.agg [.flat (.string (S [])),.flat (.bool false)]],.flat (.int .i64 7)],false,[],[]):=by
  clear a b;exact xa Ps
 clear e1 a b;exact xa Qq
def zdL(a:ba):da code lib 13 [.ga 1 [.flat (.string (S a))],.ga 1 [.flat (.string (S a))]] [] []=some ([.flat (.bool true)],false,[],[]):=by
 refine ja DO (qa rfl) ?_;exact Cp @lc @Bb @Mb @Zb @Wc RT @BEq.rfl.{0}
def zdM(a b c d e:ba):da code lib 13 [.ga 5 [.flat (.string (S a)),.flat (.string (S b)),.flat (.string (S c)),.flat (.string (S d)),.flat (.string (S e))],.ga 5 [.flat (.string (S a)),.flat (.string (S b)),.flat (.string (S c)),.flat (.string (S d)),.flat (.string (S e))]] [] []=some ([.flat (.bool true)],false,[],[]):=by
 refine ja DO (qa rfl) ?_;exact Cp @lc @Bb @Mb @Zb @Wc RT @BEq.rfl.{0}
def mH(lib:Callee)(m:tc)(a:ba)(e:Nat):Prop:=
 (e=0/\∃r:List ba,da code lib 10 [.flat (.int .i64 1),.flat (.string (S a))] [] []=some ([.ga (r.length+5) (.flat (.string (S m.fr))::.flat (.string (S m.to))::.flat (.string (S m.su))::.flat (.string (S m.te))::.flat (.string (S m.ht))::va r),.flat (.int .i64 0)],false,[],[]))
 \/(e≠0/\da code lib 10 [.flat (.int .i64 1),.flat (.string (S a))] [] []=some ([.ga 0 [],.flat (.int .i64 7)],false,[],[]))
def KE(lib:Callee)(rc bd:ba)(a:ba)(e:Nat):Prop:=
 (e=0/\∃r:List ba,da code lib 10 [.flat (.int .i64 2),.flat (.string (S a))] [] []=some ([.ga (r.length+2) (.flat (.string (S rc))::.flat (.string (S bd))::va r),.flat (.int .i64 0)],false,[],[]))
 \/(e≠0/\da code lib 10 [.flat (.int .i64 2),.flat (.string (S a))] [] []=some ([.ga 0 [],.flat (.int .i64 7)],false,[],[]))
def lI(lib:Callee)(t:ba)(a:ba)(e:Int):Prop:=
 (e=0/\da code lib 10 [.flat (.int .i64 3),.flat (.string (S a))] [] []=some ([.ga 1 [.flat (.string (S t))],.flat (.int .i64 0)],false,[],[]))
 \/(e=7/\da code lib 10 [.flat (.int .i64 3),.flat (.string (S a))] [] []=some ([.ga 0 [],.flat (.int .i64 7)],false,[],[]))
theorem AQ:∀(l:List Qa)(a:List ba),∃r,l.foldl gq a=a++r
 |[],a=>⟨[],ea⟩
 |t::l,a=>by
  obtain⟨r,h⟩:=AQ l (gq a t);rw[Pf,h];unfold gq;split
  ·exact⟨t.text::r,ea⟩
  ·exact⟨r,rfl⟩
def D_(L:wq lib)(H:Du lib)(m:tc):mH lib m.af (Yp Ra (eb 0) m.af) (Gg m.af):=by
 unfold mH Yp;by_cases c1:Gg m.af=0
 ·rw[if_pos c1]
  refine .inl ⟨c1,?_⟩;obtain⟨l,d⟩:=qZ c1;have h:=kJ d;have g:m.af.ht.length<=200:=by unfold tc.af;simp only[Ue];omega
  have e1:=zdd L.b64 L.qp L.idx L.last L.dP L.pre L.bld L.nest L.parse L.cut L.Mk L.rep L.Tq L.dec m.af (sQ m) c1;have e2:=zgo aa (fun t ht=>by
   obtain⟨a,b,c⟩:=zg5 d t ht;exact⟨aa,aa,fun x e=>by have:=c x e;omega⟩) (zdc L.pre L.bld (sQ m) d e1)
  obtain⟨r,hr⟩:=CQ l [m.af.fr,m.af.to,m.af.su,m.af.te,m.af.ht];refine⟨r,?_⟩;rw[show Cr m.af l=[m.af.fr,m.af.to,m.af.su,m.af.te,m.af.ht]++r from hr]at e2;exact e2
 ·rw[if_neg c1]
  exact .inr ⟨c1,zgn H L.pre L.bld⟩
def Y5(L:wq lib)(f:Bool)(rc bd:ba)(b:rc.length<=200)(c:bd.length<=200):KE lib rc bd (if xh rc bd=0 then Xj f rc bd else[]) (xh rc bd):=by
 unfold KE;by_cases c1:xh rc bd=0
 ·rw[if_pos c1]
  refine .inl ⟨c1,?_⟩;obtain⟨_,l,_,a,_⟩:=vD c1;have e1:=yI L.idx L.pre L.bld L.shape L.Mk L.ind L.nv L.Tq f aa aa c1 a;have e2:=pW f (by have:=Wt a;omega) e1;obtain⟨r,hr⟩:=AQ l [rc,bd];refine⟨r,?_⟩;rw[show fq rc bd l=[rc,bd]++r from hr]at e2;exact e2
 ·rw[if_neg c1]
  exact .inr ⟨c1,zgm L.idx L.pre L.bld L.Mk⟩
def zcG(L:wq lib)(t:ba)(l:Bool)(h:t.length<=200):lI lib t (if sd t=t then Oi t l else[]) (if sd t=t then 0 else 7):=by
 unfold lI;by_cases c1:sd t=t
 ·simp only[if_pos c1]
  exact .inl ⟨trivial,zgp (zdb L.bld L.Mk L.Tq L.nv t l aa c1)⟩
 ·simp only[if_neg c1]
  exact .inr ⟨trivial,zgl L.Mk L.Tq⟩
def tY(L:wq lib)(H:Du lib)(m:tc)(f:Bool)(rc bd t:ba)(l:Bool)(v:m.fr.length<=9223372036854775807)(w:m.to.length<=9223372036854775807)(x:m.su.length<=9223372036854775807)(y:m.te.length<=9223372036854775807)(z:m.ht.length<=9223372036854775807)
 (B:rc.length<=9223372036854775807) (E:bd.length<=9223372036854775807) (F:t.length<=9223372036854775807):
 da code lib 5 [.agg (xc m),.agg (Jd f rc bd),.agg [.flat (.string (S t)),.flat (.bool l)]] [] []=some ([.flat (.bool true)],false,[],[]):=by
 have hzZ:(⟨#[]⟩:ByteArray)=S []:=rfl;have M:=yp (lib:=lib) m.fr v;have N:=yp (lib:=lib) m.to w;have O:=yp (lib:=lib) m.su x;have P:=yp (lib:=lib) m.te y;have Q:=yp (lib:=lib) m.ht z;have k6Z:=yp (lib:=lib) rc B;have k7Z:=yp (lib:=lib) bd E;have k8Z:=yp (lib:=lib) t F;have c:∀s:ba,(s.take 200).length<=200:=fun s=>by rw[Ue];omega
 have o:=oY L.b64 L.JU L.qp L.rq m.af (M4 m);have p:=XK (lib:=lib) f (rc.take 200) (bd.take 200) (by have:=c rc;omega) (by have:=c bd;omega);have Z:=pY (lib:=lib) (t.take 200) l (by have:=c t;omega);have d:=D_ L H m;have b:=Y5 L f (rc.take 200) (bd.take 200) (c rc) (c bd);have a:=zcG L (t.take 200) l (c t);have hAZ:=MX L;clear L H c;generalize Yp Ra (eb 0) m.af=A at*;generalize Gg m.af=I at*;generalize (if xh (rc.take 200) (bd.take 200)=0 then Xj f (rc.take 200) (bd.take 200)else[])=C at*;generalize xh (rc.take 200) (bd.take 200)=u at*;generalize (if sd (t.take 200)=t.take 200 then Oi (t.take 200) l else[])=D at*;generalize (if sd (t.take 200)=t.take 200 then 0 else 7:Int)=edZ at*;obtain⟨fr,W,U,X,ht⟩:=m;simp only[xc,tc.af]at o M N O P Q d⊢;simp only[Jd];generalize fr.take 200=e at*;generalize W.take 200=j at*;generalize U.take 200=i at*;generalize X.take 200=k at*;generalize ht.take 200=h at*;generalize rc.take 200=R at*;generalize bd.take 200=G at*;generalize t.take 200=V at*;have T:=zdM (lib:=lib) e j i k h;have s1:=zdL (lib:=lib) V;clear v w x y z B E F;unfold mH at d;unfold KE at b;unfold lI at a;rcases d with⟨rfl,r,d⟩|⟨K,d⟩
 ·have f3Z:=dd (l:=r)
  have f1Z:=fun n=>ed (n:=n) r
  have f2Z:=Pc r;simp only[n0]at o;rcases b with⟨rfl,q,b⟩|⟨g,b⟩
  ·have g1:=fun n=>ed (n:=n) q
   have J:=Pc q;simp only[n0]at p;rcases a with⟨rfl,a⟩|⟨rfl,a⟩
   ·refine ja fp (qa rfl) ?_
    exact ua @BEq.rfl.{0}
   ·refine ja fp (qa rfl) ?_
    exact ua @BEq.rfl.{0}
  ·have Y:((u:Int)=0)=False:=by apply eq_false;omega
   rcases a with⟨rfl,a⟩|⟨rfl,a⟩
   ·refine ja fp (qa rfl) ?_
    exact ua @BEq.rfl.{0}
   ·refine ja fp (qa rfl) ?_
    exact ua @BEq.rfl.{0}
 ·have z1Z:((I:Int)=0)=False:=by apply eq_false;omega
  clear T;rcases b with⟨rfl,q,b⟩|⟨g,b⟩
  ·have g1:=fun n=>ed (n:=n) q
   have J:=Pc q;simp only[n0]at p;rcases a with⟨rfl,a⟩|⟨rfl,a⟩
   ·refine ja fp (qa rfl) ?_
    exact ua @BEq.rfl.{0}
   ·refine ja fp (qa rfl) ?_
    exact ua @BEq.rfl.{0}
  ·have Y:((u:Int)=0)=False:=by apply eq_false;omega
   rcases a with⟨rfl,a⟩|⟨rfl,a⟩
   ·refine ja fp (qa rfl) ?_
    exact ua @BEq.rfl.{0}
   ·refine ja fp (qa rfl) ?_
    exact ua @BEq.rfl.{0}
def Fo(e:Int):Value:=.iface 89 (.agg #[.int .i64 e])
def P_(e)(w):Calls Tryz.prog 76 #[.bool false,.int .i64 e] w (fun x w'=>x=.panicked (entry (Fo e))/\w'=w):=by
 go_enter Tryz.func76,Tryz.ntmps76
 go_wp2
 all_goals exact⟨rfl,rfl,rfl⟩
def qH:Di:=fun f args bx oc q=>f=76/\∃e:Int,args=[.flat (.bool false),.flat (.int .i64 e)]/\bx=[]/\oc=[]/\q=(Fo e,[],[])
def O_{Γ}:vm Tryz.prog Γ qH:=by
 rintro f args bx oc q ⟨rfl,e,rfl,rfl,rfl,rfl⟩ w Fr β vs a;obtain rfl:vs=[.bool false,.int .i64 e]:=Yy rfl a.args;refine enters_of ca ha ((P_ e w).mono ?_);rintro x w' ⟨rfl,rfl⟩;exact⟨rfl,Fr,β,by simp[Rc,Rd,ra],a.rel,Le.refl _ _ _,(fun L h=>by cases h),fun h=>by cases h⟩
noncomputable def TW(lib:Callee):Di:=OB code (da code lib) ia qH
def oX{Γ}(a:Gb Tryz.prog Γ lib):vm Tryz.prog Γ (TW lib):=zbB Tryz.checked.mixed ca Ns (pv Tryz.checked.mixed ca Ns a) O_
def Q_(e):(∃c p,qH 76 [.flat (.bool false),.flat (.int .i64 e)] [] [] (Fo e,c,p))=True:=eq_true ⟨_,_,rfl,e,rfl,rfl,rfl,rfl⟩
def zdG(v:Value)(w:World):(Instr.typeAssert (.iface 89 v) 20 89 true).run Tryz.prog w=.ok (.tuple #[v,.bool true]) w:=by
 simp only[Instr.typeAssert,Fb,run_underlying Tryz.underlying89,Nb];rfl
open Classical in
noncomputable def cz:Value->List PV->Na->Option Na:=fun v Ya bx=>if v=Fo 7/\Ya=[.ptr 0 0,.ptr 1 0]/\bx=hj 0 then some [(52,zP),(24,[.flat (.int .i64 7)]),(93,[.flat (.int .i64 0)])]else none
def I5:cz (Fo 7) [.ptr 0 0,.ptr 1 0] (hj 0)=some [(52,zP),(24,[.flat (.int .i64 7)]),(93,[.flat (.int .i64 0)])]:=if_pos ⟨rfl,rfl,rfl⟩
def sH{P:Program}{o:Oper}{f:(Operand->Value)->Sem Value}(h:∀ρ,execOp ρ o=(do pure (Next.value (<-f ρ)))):Dx Fence.wide P o:=by
 intro ρ w d w' a;rw[show Fence.wide.round=none from rfl,Oper.semAt_none,h]at a;simp only[Fb]at a;cases c:(f ρ).run P w with
 |ok v b=>simp_all
 |halt v b=>simp_all
def gT{P:Program}{o:Oper}{f:(Operand->Value)->Sem Unit}(h:∀ρ,execOp ρ o=(do f ρ;pure Next.skip)):Dx Fence.wide P o:=by
 intro ρ w d w' a;rw[show Fence.wide.round=none from rfl,Oper.semAt_none,h]at a;simp only[Fb]at a;cases c:(f ρ).run P w with
 |ok v b=>simp_all
 |halt v b=>simp_all
def Γ0:ue:=⟨fun _=>False,fun _=>True,fun _ _ _ h=>h.elim,fun _ _ _ _=>trivial⟩
def zI:List Ta×BT:=([⟨some 16,none,.build [.flat (.slice none 0 0),.flat (.string ⟨#[]⟩),.flat (.string ⟨#[]⟩),.flat (.slice none 0 0)] []⟩,⟨some 17,none,.Vm 0 (.t 3)⟩],.two ⟨some 18,none,.load false 1 (.t 17)⟩ (.one ⟨none,none,.store 4 (.t 0) (.t 16)⟩ (.one ⟨none,none,.store 1 (.t 1) (.t 18)⟩ .done)) (.one ⟨none,none,.store 4 (.t 0) (.t 16)⟩ (.one ⟨some 18,none,.load false 1 (.t 17)⟩ (.one ⟨none,none,.store 1 (.t 1) (.t 18)⟩ .done))))
def gZ:PJ Tryz.prog 36 cz:=by
 intro v Ya st bx' e T base M w0 F0 nt a w Fr β O R b;unfold cz at e;split at e
 case isFalse=>cases e
 rename_i X;obtain⟨Z,W,y⟩:=X;obtain rfl:=Xe e;subst Z W;have d:=b;simp only[ra,Rd]at b;obtain⟨_,_,rfl,⟨U,b0Z,rfl⟩,_,_,rfl,⟨g1,b1,rfl⟩,rfl⟩:=b;have N:Rel Tryz.prog T base M w0 F0 nt ⟨st.sl,[],[],st.bx⟩ a w Fr β:=R.Mm (fun i=>.inr rfl) rfl (fun L p=>by cases p) rfl;have I:=Hw (P:=Tryz.prog) (Γ:=Γ0) (nt:=19) (args:=[.ptr 0 0,.ptr 1 0]) (bx:=st.bx) (oc:=[]) ⟨trivial,d,N.boxes,(fun L p=>by cases p),fun g A=>A.elim⟩ ha;obtain⟨n,j⟩:∃n,w.alloc (.cells #[.int .i64 7] 89)=n:=⟨_,rfl⟩;have z:Below w.heap.size w n:=by rw[<-j];exact(Below.refl _ _).alloc (Aa _) _
 have u:n.heap[w.heap.size]?=some (.cells #[.int .i64 7] 89 (0,0)):=by rw[<-j];show(w.heap.push _)[w.heap.size]?=_;simp
 obtain⟨J,B⟩:=I.TB (Fr':=kf Fr w.heap.size 0) (l:=w.heap.size) (cs:=(89,[.flat (.int .i64 7)])) z (fun g h=>Sr (Ug h (Aa _))) (Aa _) (by simp[kf]) fun _=>.inl ⟨[.int .i64 7],_,u,by simp[ra,Rd,yc],by simp[fd,Value.oneCell'],rfl⟩
 refine callsDIn_of_wpSIn Tryz.func36 rfl trivial fun E cs Y=>?_
 simp only[Tryz.ntmps36,ou,sa,Ca,Nat.reduceAdd,Nat.reduceSub,pu,qu,ru,tu,Ma,Fa];apply wpSIn_seq;apply wpSIn_region;simp[wpOpsSIn,go_sem,recoverD,Y,Exit.thenS,entry,Fo];apply wpSIn_seq;apply wpSIn_seq;apply wpSIn_region;simp[wpOpsSIn,go_sem,Exit.thenS];refine wpSIn_cond (t:=false) pa ?_;simp only[Ha,if_false];refine wpSIn_of_wpIn rfl (wpIn_skip ?_);simp only[Exit.thenS];apply wpSIn_seq;apply wpSIn_region;have C:(Go.sizeOf 89).run Tryz.prog (w.alloc (.cells #[.int .i64 0] 89))=.ok 1 (w.alloc (.cells #[.int .i64 0] 89)):=run_sizeOf ca;simp[wpOpsSIn,go_sem,Exit.thenS,zdG,storeVar,C,Value.cells];rw[j];apply wpSIn_seq;apply wpSIn_seq;apply wpSIn_region;simp[wpOpsSIn,go_sem,Exit.thenS];refine wpSIn_cond (t:=false) pa ?_;simp only[Ha,if_false];refine wpSIn_of_wpIn rfl (wpIn_skip ?_);simp only[Exit.thenS];refine wpSIn_of_wpIn rfl (wpIn_region_any Tryz.checked.mixed ?_);have k:st.bx.length=3:=by rw[y];rfl
 have K:=J.zdt (st':=⟨[(0,.ptr 0 0),(1,.ptr 1 0),(3,.ptr 3 0)],[],[],st.bx++[(89,[.flat (.int .i64 7)])]⟩) (nt':=19) (a':={tmps:=#[.pointer (some ⟨U,0,none⟩),.pointer (some ⟨g1,0,none⟩),.iface 89 (.agg #[.int .i64 7]),.pointer (some ⟨w.heap.size,0,none⟩),.bool true,.iface 89 (.agg #[.int .i64 7]),.iface 89 (.agg #[.int .i64 7]),.bool false,.tuple #[.agg #[.int .i64 7],.bool true],.iface 89 (.agg #[.int .i64 7]),.tuple #[.agg #[.int .i64 7],.bool true],.agg #[.int .i64 7],.bool true,.bool true,.bool false,undef,undef,undef,undef],defers:=[]}) rfl (fun i=>by
  have c:β.length=3:=by rw[<-R.bx.1];exact k
  simp only[NS,look_nil];by_cases G:0=i
  ·subst G;simp only[if_true,Rd];simp_all
  rw[if_neg G];by_cases H:1=i
  ·subst H;simp only[if_true,Rd];simp_all
  rw[if_neg H];by_cases i3Z:3=i
  ·subst i3Z;simp only[if_true,Rd];simp_all
  grind [Rd]) rfl rfl rfl rfl rfl
 have V:Good Γ0 ⟨w.heap.size,ud w β [],w,Fr,19,w,Fr,β,[]⟩:=⟨trivial,fun g A=>A.elim⟩;refine Sx (D:=[]) (Q:=fun x a' w'=>x=.normal/\∃s,s.bx=[(52,zP),(24,[.flat (.int .i64 7)]),(93,[.flat (.int .i64 0)]),(89,[.flat (.int .i64 7)])]/\Rl Tryz.prog ⟨w.heap.size,ud w β [],w,Fr,19,w,Fr,β,[]⟩ s a' w') ?_ ?_ _ _ _ _ rfl ?_
 ·intro i o c
  match i,c with
  |0,c=>cases c;exact sH fun ρ=>rfl
  |1,c=>cases c;exact sH fun ρ=>rfl
  |2,c=>cases c;exact sH fun ρ=>rfl
  |3,c=>cases c;exact gT fun ρ=>rfl
  |4,c=>cases c;exact gT fun ρ=>rfl
  |i+5,c=>simp at c
 ·intro x a' w' hxZ H
  obtain⟨rfl,s,c,G⟩:=hxZ;refine⟨H rfl,_,rfl,.tuple #[],?_,⟨_,rfl⟩,rfl,?_⟩
  ·simp[results,Tryz.results36]
  ·exact fZ R G (by rw[k,c];rfl) la
 ·exact zdj (P:=Tryz.prog) (r:=none) (qs:=[]) (cf:=fun _ _ _ _=>none) (Γ:=Γ0) (S:=⟨w.heap.size,ud w β [],w,Fr,19,w,Fr,β,[]⟩) (fun f args bx oc H os bx' oc' h=>by cases h) V (q:=zI) (live:=[])
   (stk:=⟨[(17,.ptr 3 0),(16,.agg [.flat (.slice none 0 0),.flat (.string ⟨#[]⟩),.flat (.string ⟨#[]⟩),.flat (.slice none 0 0)]),(0,.ptr 0 0),(1,.ptr 1 0),(3,.ptr 3 0)],[],[],st.bx++[(89,[.flat (.int .i64 7)])]⟩)
   (F:=⟨[],[.cell 0 0,.cell 0 3],[],[(52,zP),(24,[.flat (.int .i64 7)]),(93,[.flat (.int .i64 0)]),(89,[.flat (.int .i64 7)])]⟩)
   ca (by rw[y];unfold zI hj zP;simp only[go_sem,simprocAttr]) (by rw[y];unfold zI hj zP;simp only[go_sem,simprocAttr];rfl) rfl ⟨_,_,K,B⟩ (fun s a' w' c G=>⟨rfl,s,by have:=congrArg St.bx c;exact this,G⟩)
def h_(L:Jo lib):TW lib 37 [.ptr 2 0,.flat (.string (S [])),.flat (.int .i64 0)] (hj 0) [.cell 0 0,.cell 0 3] (Fo 7,hj 0,[]):=by
 have a:=VI L.WA [] ea;rw[show Pg []=.form by kernel_rfl]at a;have ht:=Q_;have b:(⟨#[]⟩:ByteArray)=S []:=rfl;clear L;unfold hj zP;refine zbA Ms (qa rfl) (.r (.r (.l (.op 76 0)))) (b1:=[(52,[.ga 0 [],.flat (.string (S [])),.flat (.string (S [])),.ga 0 []]),(24,[.flat (.int .i64 0)]),(93,[.flat (.int .i64 0)]),(52,[.ga 0 [],.flat (.string (S [])),.flat (.string (S [])),.ga 0 []])]) (o1:=[.cell 3 0,.cell 3 3,.cell 0 0,.cell 0 3]) ?_ rfl ea;unfold pD;exact ta
def zbO(L:Jo lib):WJ (da code lib) (TW lib) ia cz [2,3] il [.flat (.string (S []))] [] [] ([.agg zP,.flat (.int .i64 7)],false,[],[]):=by
 have a:=h_ L;refine⟨qa rfl,⟨[(0,.flat (.string (S []))),(2,.ptr 0 0),(3,.ptr 1 0)],[.cell 0 0,.cell 0 3],[],[(52,zP),(24,[.flat (.int .i64 0)])]⟩,.r (.l (.op 37 0)),(Fo 7,[.ptr 0 0,.ptr 1 0],hj 0,[]),_,?_,?_,I5,?_⟩
 ·unfold il gI zP
  exact ta
 ·have e:hj 0=[(52,zP),(24,[.flat (.int .i64 0)]),(93,[.flat (.int .i64 0)])]:=rfl
  obtain⟨d,b⟩:∃d,hj 0=d:=⟨_,rfl⟩;have c:TW lib 37 [.ptr 2 0,.flat (.string (S [])),.flat (.int .i64 0)] [(52,zP),(24,[.flat (.int .i64 0)]),(93,[.flat (.int .i64 0)])] [.cell 0 0,.cell 0 3] (Fo 7,d,[]):=by rw[<-b];exact a
  rw[b];clear a e b L;unfold zP at c;unfold il fI tm.mid zP;exact ta
 ·unfold il Xs
  have b:([Sum.inr (2,true,4),Sum.inr (3,false,1)]:List (Sum Nat (Nat×Bool×Nat))).mapM (Bj ⟨([2,3]:List Nat).zip [.ptr 0 0,.ptr 1 0],[],[],[(52,zP),(24,[.flat (.int .i64 7)]),(93,[.flat (.int .i64 0)])]⟩)=some [.agg zP,.flat (.int .i64 7)]:=rfl;dsimp only;rw[b,jd];simp[trim,Ia,zP,PV.low,Th,jo]
def Et:Callee:=fun f args bx oc=>if f=19 then(match args,bx,oc with
 |[.flat (.string s)],[],[]=>if s.size=0 then some ([.agg zP,.flat (.int .i64 7)],false,[],[])else none
 |_,_,_=>none)else none
def zbK:Et 19 [.flat (.string (S []))] [] []=some ([.agg zP,.flat (.int .i64 7)],false,[],[]):=rfl
def zbL{Γ:ue}(L:Jo lib)(b:Gb Tryz.prog Γ lib):Gb Tryz.prog Γ Et:=by
 intro f args bx oc e os bx' oc' a;unfold Et at a;split at a
 case isFalse=>cases a
 rename_i c;subst c;split at a
 case h_2=>cases a
 rename_i s;split at a
 case isFalse=>cases a
 rename_i hs;obtain⟨l,rfl⟩:∃l:ba,s=S l:=⟨s.data.toList,by simp[S]⟩;rw[Ua]at hs;obtain rfl:=qz hs;cases a;intro w Fr β vs d;exact zby Tryz.checked.mixed ca (pv Tryz.checked.mixed ca Ns b) (oX b) qU gZ (zbO L) d
set_option maxRecDepth 100000
noncomputable def uw:Callee:=pw Et (Dt Vv)
def zcu:Gb Tryz.prog Lj uw:=zbf (zbL Jp cH) (zbJ cH)
def zcv:js uw:=fun m a=>by
 have h:(S (Eg Ra (eb 0) m)).size≠0:=by
  rw[Ua];unfold Eg;have:(Wa [Ln]).length=(Wa [Ln]).length - 1+1:=rfl;simp only[Da];omega
 have b:Et 19 [.flat (.string (S (Eg Ra (eb 0) m)))] [] []=none:=by
  unfold Et;rw[if_pos rfl];dsimp only;rw[if_neg h]
 unfold uw pw;rw[b];exact zbI Jp m a
def zao:Du (Ip uw):=ak rfl (by unfold uw pw;rw[zbK])
def W4{n:Nat}{ps:List PV}(h:fit Tryz.prog n 42 ps):∃(t:ba)(l:Bool),ps=[.flat (.string (S t)),.flat (.bool l)]/\t.length<=9223372036854775807:=by
 cases n with
 |zero=>cases h
 |succ n=>
  simp only[fit,Tryz.underlying42]at h;obtain⟨c,rfl,g,d⟩:=h;obtain⟨a,b,rfl⟩:∃a b,c=[a,b]:=by
   match c,g with
   |[a,b],_=>exact⟨a,b,rfl⟩
  obtain⟨s1,rfl,e⟩:=bq (d 0 _ a rfl rfl);obtain⟨f,rfl⟩:=VK (d 1 _ b rfl rfl);exact⟨s1,f,rfl,e⟩
def T4{n:Nat}{p:PV}(h:Ll Tryz.prog n 42 p):∃(t:ba)(l:Bool),p=.agg [.flat (.string (S t)),.flat (.bool l)]/\t.length<=9223372036854775807:=by
 simp only[Ll,Tryz.underlying42]at h;obtain⟨ps,rfl,h⟩:=h;obtain⟨t,l,rfl,a⟩:=W4 h;exact⟨t,l,rfl,a⟩
def zhC(W:World)(j:JB W)(si:List PV)(vs:List Value)(hr:ra W (Dl W) [] si vs)(b:fits Tryz.prog Tryz.f5.params.toList si):Calls Tryz.prog 5 vs.toArray W (Zg (.bool true) W):=by
 rw[Tryz.params5]at b
 match si,b with
 |[p,q,a],⟨⟨_,g⟩,⟨_,h⟩,⟨_,i⟩,_⟩=>
  obtain⟨m,rfl,c,d,a3,a4,a5⟩:=S4 g;obtain⟨f,rc,bd,rfl,b1,e⟩:=R4 h;obtain⟨t,l,rfl,c1⟩:=T4 i;exact dZ (zaG zcu) ha (tY (i_ zcv) zao m f rc bd t l c d a3 a4 a5 b1 e c1) j hr
end ya

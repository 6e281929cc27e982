/- Texts of this proof, merged. -/
import Derived.Test.YtglaihdcndcmkaaGreatDoorSe
import Derived.Lib.Index
import Derived.Lib.IndexMore
import Derived.Lib.LastIndexByte
import Derived.Lib.Strings
import Derived.RecoverIn
set_option linter.all false
open Go Go.Proofs Go.RowKit Go.Proofs.YtglaihdcndcmkaaGreatDoor
set_option maxHeartbeats 4000000
namespace ya
variable {lib:Callee}
def vr(n:Nat)(t:Tok):Prop:=t.name.length<=n/\t.Jj.length<=n/\∀a∈t.Jj,a.name.length<=n
def SV(s:ba)(k:Nat):(Bb s k).length<=s.length:=by
 unfold Bb;have h:=(Hw (p:=Tk) (l:=s.drop k)).length_le;rw[fc]at h;omega
def DW{s:ba}{k:Nat}{q}(h:tm s k=some q):q.1.name.length<=s.length:=by
 have:=SV s k;unfold tm at h
 grind
def R_{s:ba}{k:Nat}(t:k<=s.length){q}(h:fk s k=some q):q.1.length<=s.length/\∀a∈q.1,a.name.length<=s.length:=by
 refine kk (step:=Jf s) (d:=none) (I:=fun a=>a.2<=s.length/\a.1.length<=s.length - k+0/\a.1.length+k<=a.2/\∀x∈a.1,x.name.length<=s.length) (μ:=fun a=>s.length - a.2) (Q:=fun r=>∀q,r=some q->q.1.length<=s.length/\∀a∈q.1,a.name.length<=s.length) (fun a p=>?_) (s.length+1) ([],k) ⟨t,ea,ea,ea⟩ Hg q h;obtain⟨n,u,v,i⟩:=p;have o:=Pu n;unfold Jf;split
 ·rename_i c b
  split at b
  ·cases b
  split at b
  ·cases b
  ·rename_i x e j
   have g1:=BB o j;have l:=DW j;split at b
   ·cases b
   ·cases b
    simp only[Ba,ua,Ca]at g1⊢;refine⟨⟨g1.2,aa,aa,fun y g=>?_⟩,aa⟩;rcases Ue.1 g with g|g
    ·exact i y g
    ·rw[so.1 g];exact l
 ·rename_i r hr
  split at hr
  ·cases hr
   intro q b;cases b;exact⟨Hg,i⟩
  split at hr
  ·cases hr;intro q b;cases b
  ·split at hr
   ·cases hr;intro q b;cases b
   ·cases hr
def Y9{s:ba}{k:Nat}(c:k<=s.length){t}(h:oj s k=some t):vr s.length t:=by
 have w:=SV s;unfold oj at h;split at h
 ·split at h
  ·cases h;exact⟨w _,ea,ea⟩
  ·cases h
 split at h
 ·rename_i i
  split at h
  ·obtain⟨q,d,rfl⟩:=qm h
   have a:k+1+(Bb s (k+1)).length<=s.length:=by
    have b:=bj (w:=[60]) c;rw[i]at b;have e:=rr c b.symm;simp only[ua,Ca]at e;have g:=(Hw (p:=Tk) (l:=s.drop (k+1))).length_le;rw[fc]at g;unfold Bb;omega
   have:=R_ a d;exact⟨w _,this.1,this.2⟩
  ·cases h
 ·obtain⟨q,d,rfl⟩:=qm h
  exact⟨ea,ea,ea⟩
def ze3{s:ba}{l}(h:Ni s=some l):∀t∈l,vr s.length t:=by
 unfold Ni at h;split at h
 case isFalse=>cases h
 refine kk (step:=ni s) (d:=none) (I:=fun a=>(a.2<=s.length/\a.1.length<=a.2)/\∀t∈a.1,vr s.length t) (μ:=fun a=>s.length - a.2) (Q:=fun r=>∀l,r=some l->∀t∈l,vr s.length t) (fun a j=>?_) (s.length+1) ([],0) ⟨⟨Cb _,Aa _⟩,ea⟩ Hg l h;obtain⟨e,g⟩:=j;cases hs:ni s a with
 |inl c=>
  obtain⟨g1,i⟩:=FA (fun k t=>Fz) a c e hs;refine⟨⟨g1,?_⟩,i⟩;unfold ni at hs;split at hs
  ·cases hs
  split at hs
  ·cases hs
  ·rename_i t ht
   cases hs;intro x b;rcases Ue.1 b with b|b
   ·exact g x b
   ·rw[so.1 b];exact Y9 e.1 ht
 |inr r=>
  intro l b;unfold ni at hs;split at hs
  ·cases hs;cases b;exact g
  split at hs
  ·cases hs;cases b
  ·cases hs
def Ul(a:Vi):ba:=32::a.name
def Uv(t:Tok):ba:=if t.kind=111 then 60::(t.name++(t.Jj.flatMap Ul++[62]))else if t.kind=99 then 60::47::(t.name++[62])else[]
def qt(l:List Tok):ba:=l.flatMap Uv
theorem bE{α:Type}(f:α->ba):∀(l:List α)(a:ba),l.foldl (fun a t=>a++f t) a=a++l.flatMap f
 |[],a=>by simp
 |t::l,a=>by rw[Cg,bE f l];simp
theorem tP{α:Type}{f:α->ba}{n:Nat}:∀{l:List α},(∀a∈l,(f a).length<=n)->(l.flatMap f).length<=n* l.length
 |[],_=>by simp
 |a::l,h=>by
  have c:=h a ea;have d:=tP (l:=l) fun x b=>h x (by simp[b])
  simp only[fm,Ba,ua,Nat.mul_add,Nat.mul_one];omega
def uU{t:Tok}(h:vr 300 t):(Uv t).length<=100000:=by
 obtain⟨e,b,c⟩:=h;have:=tP (f:=Ul) (n:=301) (l:=t.Jj) fun a d=>by have:=c a d;simp only[Ul,ua];omega
 have g:301* t.Jj.length<=301* 300:=Nat.mul_le_mul_left _ b;unfold Uv;split
 ·simp only[ua,Ba,Ca];omega
 split
 ·simp only[ua,Ba,Ca];omega
 ·simp
theorem HW(p:Sb lib)(M T:Nat×List PV)(E:Ia 3 M.2=true)(F:Ia 3 T.2=true)(n:Nat)(cs:List PV)(A:∀n,Ia n cs=true)(j:Nat)(c:List Vi)(y:c.length<=300)(d:∀a∈c,a.name.length<=300)(out:ba)(G:out.length<=1000000000)(u:Bool):
 ∃B,Ac (ma (da code lib) ja Bx) [3,9,10,11,24,25,26] 3 ja ⟨[(3,.ptr 1 0),(9,.ia n cs),(10,.flat (.int .i64 (n:Nat))),(11,.flat (.int .i64 (j:Nat))),(24,.ia c.length (tc c)),(25,.flat (.int .i64 (c.length:Nat))),(26,.flat (.int .i64 0))],[.cell 1 1],[],[M,(101,bld u 1 out []),T]⟩
  =some (.exit 3,⟨[(3,.ptr 1 0),(9,.ia n cs),(10,.flat (.int .i64 (n:Nat))),(11,.flat (.int .i64 (j:Nat)))],[.cell 1 1],[],[M,(101,bld B 1 (out++c.flatMap Ul) []),T]⟩):=by
 have z:za=4294967296:=rfl;have C:=fun n=>Jd (n:=n) c
 have hrel:=On (body:=ma (da code lib) ja Bx) (live:=[3,9,10,11,24,25,26]) (nb:=3) (fun(u:Bool)(q:ba×Nat)=>(⟨[(3,.ptr 1 0),(9,.ia n cs),(10,.flat (.int .i64 (n:Nat))),(11,.flat (.int .i64 (j:Nat))),(24,.ia c.length (tc c)),(25,.flat (.int .i64 (c.length:Nat))),(26,.flat (.int .i64 (q.2:Nat)))],[.cell 1 1],[],[M,(101,bld u 1 q.1 []),T]⟩:St))
  (ug (fun a t=>a++Ul t) c) [] (fun r o st=>o=.exit 3/\∃u,st=⟨[(3,.ptr 1 0),(9,.ia n cs),(10,.flat (.int .i64 (n:Nat))),(11,.flat (.int .i64 (j:Nat)))],[.cell 1 1],[],[M,(101,bld u 1 r []),T]⟩) (fun q=>q.2<=c.length/\q.1.length<=out.length+301* q.2) (fun q=>c.length - q.2) (fun u ⟨w,i⟩ x=>?_) (fun a b x h=>?_) (n:=c.length+1) (m:=ja) u (out,0) ⟨Cb _,ea⟩ aa (by grind [ja])
 ·obtain⟨o,st,e,rfl,u,rfl⟩:=hrel
  rw[kp aa,yf,bE]at e;exact⟨u,e⟩
 ·dsimp only at x⊢
  unfold ug;dsimp only;cases e:c[i]? with
  |none=>
   have:=ul.1 e;clear d;exact Hq (o:=.exit 3) (s:=⟨[(3,.ptr 1 0),(9,.ia n cs),(10,.flat (.int .i64 (n:Nat))),(11,.flat (.int .i64 (j:Nat)))],[.cell 1 1],[],[M,(101,bld u 1 w []),T]⟩) (va WS) ea ⟨rfl,u,rfl⟩
  |some t=>
   have fa:=(qg e).1;have e1:=rB e;have ht:=d t (nh e);have g:=ai p (bx:=[M,(101,bld u 1 w []),T,(282,hb t)]) (b:=1) (u:=u) (l:=w) (m:=Ul t) (r:=[]) (rest:=[]) rfl lj (by simp only[Ul,ua];omega) (fun q k=>by cases k) (fun q k=>by cases k);have D:∀w,Ia 3 (bld true 1 w [])=true:=fun w=>Mo ha rfl
   clear d e p;obtain⟨a,v,fr,to⟩:=t;have H:1+a.length<=4294967296:=by dsimp only at ht;omega
   refine⟨true,?_⟩;unfold Ul at g⊢;simp only[hb,Ha,Ra,Am,List.set_cons_succ,Gw]at e1 g⊢;exact va WS
 ·obtain⟨k,e,t,ht,g⟩:=Nq a b h
  have:=d t (nh ht);rw[e,g];simp only[Ba,Ul,ua];omega
abbrev Rm(m:kc)(l:List Tok):Nat×List PV:=(122,Lb m++[.ia l.length (uc l)])
theorem zcJ(p:Sb lib)(m:kc)(l:List Tok)(N:l.length<=10000)(hs:∀t∈l,vr 300 t):
 da code lib 312 [.agg (Lb m++[.ia l.length (uc l)])] [] []=some ([.flat (.string (S (qt l)))],false,[],[]):=by
 have O:(⟨#[]⟩:ByteArray)=S []:=rfl;have H:za=4294967296:=rfl;have D:=fun n=>dn (n:=n) l
 have E:Ia 3 (Rm m l).2=true:=by simp only[Lb,Ha,Ra,Ia,PV.low,D,Dg]
 have hrel:=On (body:=ma (da code lib) ja rC) (live:=[3,9,10,11]) (nb:=2) (fun(u:Bool)(q:ba×Nat)=>(⟨[(3,.ptr 1 0),(9,.ia l.length (uc l)),(10,.flat (.int .i64 (l.length:Nat))),(11,.flat (.int .i64 (q.2:Nat)))],[.cell 1 1],[],[Rm m l,(101,bld u 1 q.1 [])]⟩:St))
  (ug (fun a t=>a++Uv t) l) [] (fun r o st=>o=.exit 0/\∃u,st=⟨[(3,.ptr 1 0)],[.cell 1 1],[],[Rm m l,(101,bld u 1 r [])]⟩) (fun q=>q.2<=l.length/\q.1.length<=100000* q.2) (fun q=>l.length - q.2) (fun u ⟨out,j⟩ I=>?_) (fun a b d h=>?_) (n:=l.length+1) (m:=ja) false ([],0) ⟨Cb _,ea⟩ aa (by grind [ja])
 ·obtain⟨o,st,d,rfl,u,rfl⟩:=hrel
  rw[kp aa,yf,bE,Ra]at d;have e:=lk (lib:=lib) (oc:=[.cell 1 1]) p (bx:=[Rm m l,(101,bld u 1 (qt l) [])]) (b:=1) rfl ea;simp only[n0,show bld false 1 [] []=[.flat (.pointer none),.ia 0 []]from rfl,Rm,Lb,Ha,Ra]at d e⊢;unfold qt at e⊢;exact Fa IZ
 ·dsimp only at I⊢
  unfold ug;dsimp only;cases i:l[j]? with
  |none=>
   have:=ul.1 i;clear hs;exact Hq (o:=.exit 0) (s:=⟨[(3,.ptr 1 0)],[.cell 1 1],[],[Rm m l,(101,bld u 1 out [])]⟩) (by unfold Rm Lb;exact va Wz) ea ⟨rfl,u,rfl⟩
  |some t=>
   have fa:=(qg i).1;have e1:=EI i;have g:=hs t (nh i);have ht:=uU g;have d:=fun u out w h=>ai p (bx:=[Rm m l,(101,bld u 1 out []),(190,xa t)]) (b:=1) (u:=u) (l:=out) (m:=w) (r:=[]) (rest:=[]) rfl lj h (fun q B=>by cases B) (fun q B=>by cases B)
   have e:=fun u out h=>HW p (Rm m l) (190,xa t) E (wt t) l.length (uc l) D j t.Jj g.2.1 g.2.2 out h u
   have L:∀w,Ia 2 (bld true 1 w [])=true:=fun w=>Mo ha rfl
   have G:=fun n=>Jd (n:=n) t.Jj
   have A:=g.2.1;clear hs i p E g;obtain⟨c,k,P,F,fr,to⟩:=t;unfold Uv at ht⊢;dsimp only at ht e d G A⊢;simp only[xa,Rm,Lb,Ha,Ra,Am,List.set_cons_succ,Gw]at e1 d e⊢;by_cases g1:c=111
   ·subst g1
    rw[if_pos rfl]at ht⊢;simp only[ua,Ba,Ca]at ht;have C:=d u out (60::k) (by simp only[ua];omega);obtain⟨y,J⟩:=e true (out++60::k) (by simp only[ua,Ba];omega);have K:=d y (out++60::k++F.flatMap Ul) [62] (by simp only[ua,Ba,Ca];omega);clear d e;simp only[show((UInt8.toNat 111:Nat):Int)=111 from rfl,vc,Ha]at C J K;generalize F.flatMap Ul=z at*;have M:=Mo (u:=y) (b:=1) (nb:=2) (l:=out++60::(k++z)) (rest:=[]) ha rfl;refine⟨true,?_⟩;exact va Wz
   have v:=toNat_ne g1;simp only[show((UInt8.toNat 111:Nat):Int)=111 from rfl]at v;rw[if_neg g1]at ht⊢;clear e;by_cases x:c=99
   ·subst x
    rw[if_pos rfl]at ht⊢;simp only[ua,Ba,Ca]at ht;have C:=d u out (60::47::(k++[62])) (by simp only[ua,Ba,Ca];omega);clear d;simp only[show((UInt8.toNat 99:Nat):Int)=99 from rfl]at C;refine⟨true,?_⟩;exact va Wz
   ·rw[if_neg x,Sg]
    have y:=toNat_ne x;simp only[show((UInt8.toNat 99:Nat):Int)=99 from rfl]at y;clear d;have J:=Mo (u:=u) (b:=1) (nb:=2) (l:=out) (rest:=[]) ha rfl;refine⟨u,?_⟩;exact va Wz
 ·obtain⟨g,d,t,ht,e⟩:=Nq a b h
  have:=uU (hs t (nh ht));rw[d,e];simp only[Ba];omega
def ix(o:Option Nat):Int:=match o with
 |some i=>(i:Int)
 |none=>-1
theorem qR(c)(s):∀k,k<=s.length->Lib.lastIdx (S s) (c.toNat:Nat) k=ix (af c (s.take k))
 |0,_=>by simp[Lib.lastIdx,af,ix]
 |k+1,h=>by
  have n:k<s.length:=h;have ht:=oo n;have q:(S s).data[k]! =s[k]:=by
   show s.toArray[k]! =s[k];simp[n]
  rw[Lib.lastIdx,q,ht];by_cases a:s[k]=c
  ·have b:af c [s[k]]=some 0:=by simp[af,a]
   rw[tz b,Se,Nat.min_eq_left aa,a,if_pos rfl]
   all_goals (simp[ix])
  ·have o:¬((s[k].toNat:Int)=(c.toNat:Nat)):=fun e=>a (Xb.1 aa)
   rw[if_neg o,qR c s k aa];congr 1;by_cases d:c∈s.take k
   ·obtain⟨i,r⟩:=uz d
    have:∀p:ba,(∃j,af c p=some j)->af c (p++[s[k]])=af c p:=by
     intro p
     induction p with
     |nil=>rintro⟨j,g⟩;cases g
     |cons x l t=>
      rintro⟨j,g⟩;simp only[Ha,af];by_cases b:c∈l
      ·rw[t (uz b)]
      ·rw[ar b]
       rw[ar (s:=l++[s[k]]) (by
        rw[Ue];rintro(h|h)
        ·exact b h
        ·simp at h;exact a h.symm)]
    exact(this _ ⟨i,r⟩).symm
   ·rw[ar d,ar (s:=s.take k++[s[k]]) (by
     rw[Ue];rintro(h|h)
     ·exact d h
     ·simp at h;exact a h.symm)]
def o8(c)(s):Lib.lastIndexByte (S s) (c.toNat:Nat)=ix (af c s):=by
 unfold Lib.lastIndexByte;rw[Xa,qR c s _ (Aa _),cm]
theorem OU(w:ba)(c:w≠[]):∀s:ba,Lib.contains s w=Og s w
 |[]=>by
  unfold Lib.contains Lib.index Og;cases w with
  |nil=>exact absurd rfl c
  |cons a l=>rfl
 |x::l=>by
  have h:=OU w c l;unfold Lib.contains at h⊢;unfold Lib.index Og;rw[<-h];cases e:w.isPrefixOf (x::l)with
  |true=>simp
  |false=>
   simp only[La,if_false,Ug];have d:=Lib.index_ge l w;by_cases b:Lib.index l w=-1
   ·have:(Lib.index l w==-1)=true:=by simpa using b
    rw[this,if_pos rfl,b]
   ·have:(Lib.index l w==-1)=false:=by simpa using b
    rw[this,if_neg ea,decide_eq_decide];omega
abbrev jW:=Value×Oa×List Loc
abbrev aj:=FuncId->List PV->Oa->List Loc->jW->Prop
abbrev iq:=Value×List PV×Oa×List Loc
inductive Rt where
 | op (f:FuncId) (k:Nat)
 | l (r:Rt)
 | r (r:Rt)
 | lp (m:Nat) (r:Rt)
 | rg
def zeV(st:St):Ea->Option (FuncId×List PV)
 | .call f args=>some (f,args.map fun x=>(x.ev st.sl).jb)
 | .callv g args=>match g.ev st.sl with
   | .ib f fb=>if f=kb then none else some (f,(args.map fun x=>(x.ev st.sl).jb)++fb)
   |_=>none
 |_=>none
def Ao(pf:aj)(kl:List Nat)(st:St)(f:FuncId)(args:List PV)(q:iq):Prop:=
 q.2.1=kl.map (look st.sl)/\if Ib args=true then(∃bx oc,pf f args [] [] (q.1,bx,oc))/\q.2.2=(st.bx,st.ow.filter Da)else pf f args st.bx (st.ow.filter Da) (q.1,q.2.2)
def Yi(cf:Callee)(pf:aj)(kl:List Nat)(f:FuncId)(o:Wa)(k:Nat)(st:St)(q:iq)(K:Nat->St->Prop):Prop:=match xh st o.g with
 |some true=>(match zeV st o.op with
  |some (g,args)=>if g=f then(match k with
   |0=>Ao pf kl st f args q
   |k+1=>match stepG cf st o with|some st'=>K k st'|none=>False)
    else match stepG cf st o with|some st'=>K k st'|none=>False
  |none=>match stepG cf st o with|some st'=>K k st'|none=>False)
 |_=>match stepG cf st o with|some st'=>K k st'|none=>False
def lm(cf:Callee)(pf:aj)(kl:List Nat)(f:FuncId):List Wa->Nat->St->iq->Prop
 |[],_,_,_=>False
 |o::r,k,st,q=>Yi cf pf kl f o k st q fun k st'=>lm cf pf kl f r k st' q
def Oh(cf:Callee)(pf:aj)(kl:List Nat)(f:FuncId):BT->Nat->St->iq->Prop
 | .done,_,_,_=>False
 | .one o t,k,st,q=>Yi cf pf kl f o k st q fun k st'=>Oh cf pf kl f t k st' q
 | .two o t r,k,st,q=>(Yi cf pf kl f o k st q fun k st'=>Oh cf pf kl f t k st' q)/\Oh cf pf kl f r k st q
def km(body:St->Option (Out×St))(a:St->Prop)(live:List Nat)(nb:Nat):Nat->St->Prop
 |0,st=>a st
 |n+1,st=>match body st with
  |some (.normal,st')=>km body a live nb n (st'.only live nb)
  |_=>False
def oB(pf:aj)(kl:List Nat)(f k:Nat)(live:List Nat)(g:PV)(st:St)(q:iq):Prop:=match g with
 | .ib h fb=>h≠kb/\q.2.1=kl.map (look st.sl)/\pf h (.Sa st.bx.length::fb) (st.bx++[(0,[.lp f k .ready live (live.map (look st.sl))])]) (st.ow.filter Da) (q.1,q.2.2)
 |_=>False
def Rf(cf:Callee)(pf:aj)(kl:List Nat)(n:Nat):ka->Rt->St->iq->Prop
 | .Ab _ [] e,.op f k,st,q=>lm cf pf kl f e k st q
 | .Od _ pre t,.op f k,st,q=>(pre.all fun o=>match o.dst with|some d=>!kl.contains d|none=>true)=true/\match Tf cf pre st with
   |some s=>Oh cf pf kl f t k s q
   |none=>False
 | .seq a _,.l r,st,q=>Rf cf pf kl n a r st q
 | .seq a b,.r r,st,q=>match ma cf n a st with
   |some (.normal,st')=>Rf cf pf kl n b r st' q
   |_=>False
 | .cond c a b,r,st,q=>match c.ev st.sl with
   | .flat (.bool t)=>if t then Rf cf pf kl n a r st q else Rf cf pf kl n b r st q
   |_=>False
 | .block _ b,r,st,q=>Rf cf pf kl n b r st q
 | .loop live b,.lp m r,st,q=>km (ma cf n b) (fun s=>Rf cf pf kl n b r s q) live st.bx.length m (st.only live st.bx.length)
 | .range f k live g,.rg,st,q=>oB pf kl f k live (g.ev st.sl) st q
 |_,_,_,_=>False
def tn(code:FuncId->Option pa)(cf:Callee)(n0:Nat)(plib:aj):Nat->aj
 |0,_,_,_,_,_=>False
 |n+1,f,args,bx,oc,q=>match code f with
  |none=>f≠kb/\plib f args bx oc q
  |some c=>args.length<=c.nt/\∃b a,Rf cf (tn code cf n0 plib n) [] n0 c.body b {sl:=yh 0 args,ow:=oc,al:=[],bx} a/\q.1=a.1/\q.2.1=trim bx.length [] a.2.2.1/\∀L∈q.2.2,L∈dj (trim bx.length [] a.2.2.1).length a.2.2.2
section
variable {P:Program} {w w':World} {r:Option Nat} {Fr Fr':Nat→Nat} {β β':List Nat} {T:List Deferred} {base nt:Nat} {M:Nat→Prop} {w0:World} {F0:Nat→Nat} {st st':St} {a a':Act} {cf:Callee} {pf:aj} {Γ:lf} {S:S0}
end
section
variable {cf:Callee} {pf pf':aj}
theorem Ao.mono(h:∀f args bx oc q,pf f args bx oc q->pf' f args bx oc q){st}{f}{args}{kl}{q}(k:Ao pf kl st f args q):Ao pf' kl st f args q:=by
 grind [Ao]
theorem Yi.mono(h:∀f args bx oc q,pf f args bx oc q->pf' f args bx oc q){f}{o}{k}{st}{kl}{q}{K K'}(c:∀k s,K k s->K' k s)(a:Yi cf pf kl f o k st q K):Yi cf pf' kl f o k st q K':=by
 unfold Yi at a⊢;split at a
 ·split at a
  ·split at a
   ·rename_i b
    rw[if_pos b];split at a
    ·exact a.mono h
    grind
   grind
  grind
 grind
theorem lm.mono(h:∀f args bx oc q,pf f args bx oc q->pf' f args bx oc q){f}{kl}{q}:∀(l)(k)(st),lm cf pf kl f l k st q->lm cf pf' kl f l k st q
 |[],_,_,a=>a
 |o::r,k,st,a=>Yi.mono h (fun k s=>lm.mono h r k s) a
theorem Oh.mono(h:∀f args bx oc q,pf f args bx oc q->pf' f args bx oc q){f}{kl}{q}:∀(t)(k)(st),Oh cf pf kl f t k st q->Oh cf pf' kl f t k st q
 | .done,_,_,a=>a
 | .one o t,k,st,a=>Yi.mono h (fun k s=>Oh.mono h t k s) a
 | .two o t r,k,st,a=>⟨Yi.mono h (fun k s=>Oh.mono h t k s) a.1,Oh.mono h r k st a.2⟩
theorem km.mono{body}{p a}(h:∀s,p s->a s){live}{nb}:∀(n)(st),km body p live nb n st->km body a live nb n st
 |0,st,k=>h st k
 |n+1,st,k=>by
  unfold km at k⊢;split at k
  ·exact km.mono h n _ k
  omega
theorem Rf.mono(h:∀f args bx oc q,pf f args bx oc q->pf' f args bx oc q){n}{kl}{q}:∀(c)(d)(st),Rf cf pf kl n c d st q->Rf cf pf' kl n c d st q:=by
 intro c
 induction c with
 |Ab live pre o=>
  intro d st k;cases d with
  |op f i=>cases pre with
   |nil=>exact lm.mono h _ _ _ k
   |cons p pre=>exact k.elim
  |_=>cases pre<;>exact k.elim
 |Od live pre t=>
  intro d st k;cases d<;>grind [Rf,Oh.mono]
 |seq a b j l=>
  intro d st k;cases d<;>grind [Rf]
 |cond c a b j l=>
  grind [Rf]
 |block id b e=>intro d st k;exact e d st k
 |loop live b e=>
  intro d st k;cases d with
  |lp m d=>exact km.mono (fun s=>e d s) _ _ k
  |_=>exact k.elim
 |range f i live g=>
  intro d st k;cases d with
  |rg=>
   simp only[Rf]at k⊢;unfold oB at k⊢
   grind
  |_=>exact k.elim
 |skip=>intro d st k;cases d<;>exact k.elim
 |exit id live=>intro d st k;cases d<;>exact k.elim
 |ret live=>intro d st k;cases d<;>exact k.elim
def Rf.depth{e:Nat->aj}(y:∀n m,n<=m->∀f args bx oc q,e n f args bx oc q->e m f args bx oc q){n}{kl}{q}:∀(c)(d)(st),Rf cf (fun f args bx oc q=>∃m,e m f args bx oc q) kl n c d st q->∃m,Rf cf (e m) kl n c d st q:=by
 have call:∀{st f args},Ao (fun f args bx oc q=>∃m,e m f args bx oc q) kl st f args q->∃m,Ao (e m) kl st f args q:=fun{st f args} k=>by
  grind [Ao]
 have step:∀{f o k st}{K:Nat->St->Prop}{K':Nat->Nat->St->Prop},(∀k s,K k s->∃m,K' m k s)->Yi cf (fun f args bx oc q=>∃m,e m f args bx oc q) kl f o k st q K->∃m,Yi cf (e m) kl f o k st q (K' m):=fun{f o k st K K'} F v=>by
  unfold Yi at v⊢;split at v
  ·split at v
   ·split at v
    ·split at v<;>grind
    grind
   grind
  grind
 have ops:∀(f:FuncId)(l:List Wa)(k:Nat)(st:St),lm cf (fun f args bx oc q=>∃m,e m f args bx oc q) kl f l k st q->∃m,lm cf (e m) kl f l k st q:=by
  intro f l
  induction l with
  |nil=>intro k st h;exact h.elim
  |cons o r u=>intro k st h;exact step (K':=fun m k s=>lm cf (e m) kl f r k s q) (fun k s h=>u k s h) h
 have C:∀(f:FuncId)(t:BT)(k:Nat)(st:St),Oh cf (fun f args bx oc q=>∃m,e m f args bx oc q) kl f t k st q->∃m,Oh cf (e m) kl f t k st q:=by
  intro f t
  induction t with
  |done=>intro k st h;exact h.elim
  |one o t u=>intro k st h;exact step (K':=fun m k s=>Oh cf (e m) kl f t k s q) (fun k s h=>u k s h) h
  |two o t r w j=>
   intro k st h;obtain⟨x,D⟩:=step (K':=fun m k s=>Oh cf (e m) kl f t k s q) (fun k s h=>w k s h) h.1;obtain⟨B,E⟩:=j k st h.2;exact⟨max x B,Yi.mono (y x _ (Si _ _)) (fun k s=>Oh.mono (y x _ (Si _ _)) t k s) D,Oh.mono (y B _ (yk _ _)) r k st E⟩
 intro c
 induction c with
 |Ab live pre j=>
  intro d st k;cases d with
  |op f i=>cases pre with
   |nil=>exact ops _ _ _ _ k
   |cons p pre=>exact k.elim
  |_=>cases pre<;>exact k.elim
 |Od live pre t=>
  intro d st k;cases d<;>grind [Rf]
 |seq a b z A=>
  intro d st k;cases d<;>grind [Rf]
 |cond c a b z A=>
  grind [Rf]
 |block id b u=>intro d st k;exact u d st k
 |loop live b u=>
  intro d st k;cases d with
  |lp m d=>
   simp only[Rf]at k⊢;obtain⟨x,w⟩:∃x,st.only live st.bx.length=x:=⟨_,rfl⟩;rw[w]at k⊢;clear w
   induction m generalizing x with
   |zero=>exact u d x k
   |succ m B=>
    unfold km at k;split at k
    ·obtain⟨j,D⟩:=B _ k
     exact⟨j,by grind [km]⟩
    grind
  |_=>exact k.elim
 |range f i live g=>
  intro d st k;cases d with
  |rg=>
   simp only[Rf]at k⊢;unfold oB at k⊢;split at k<;>grind
  |_=>exact k.elim
 |skip=>intro d st k;cases d<;>exact k.elim
 |exit id live=>intro d st k;cases d<;>exact k.elim
 |ret live=>intro d st k;cases d<;>exact k.elim
variable {code:FuncId→Option pa} {n0:Nat} {plib:aj}
theorem tn.succ:∀(n)(f)(args)(bx)(oc)(q),tn code cf n0 plib n f args bx oc q->tn code cf n0 plib (n+1) f args bx oc q
 |0,_,_,_,_,_,h=>h.elim
 |n+1,f,args,bx,oc,q,h=>by
  unfold tn at h⊢;split
  ·grind
  ·rename_i c e
   rw[e]at h;obtain⟨a,i,g,b,d⟩:=h;exact⟨a,i,g,Rf.mono (tn.succ n) _ _ _ b,d⟩
def tn.le{n m}(h:n<=m):∀(f)(args)(bx)(oc)(q),tn code cf n0 plib n f args bx oc q->tn code cf n0 plib m f args bx oc q:=by
 induction h<;>grind [succ]
end
section
variable {P:Program} {Γ:lf} {cf:Callee}
end
structure yo where
 nt:Nat
 Ua:List (Sum Nat (Nat × Bool × Nat))
 pre:ka
 d:Nat
 g:FuncId
 fb:List X
 body:ka
def mu(P:Program)(qs:List FuncId)(c e:List (List Nat))(f:FuncId):Option yo:=match P.funcs[f]? with
 |some fn=>match fn.body with
  |some (.seq a (.seq (.region _ ops false) b))=>(match ops.toList with
   |[⟨some d,.makeFunc (.func g) first fb,_,_,_,none⟩,⟨none,.defer ⟨.value (.tmp h),args,_⟩,_,_,_,none⟩]=>
    if fn.name != "runtime.NumGoroutine"/\Yb a=[]/\Yb b=[]/\d=h/\first.size=0/\args=#[]/\d<fn.ntmps/\Qj P g=true then
     (Ro fb).bind fun cs=>(de P qs f fn.ntmps 0 c a).bind fun p=>(de P qs f fn.ntmps 0 e b).bind fun q=>(fn.results.toList.mapM (Dm P)).map fun rs=>⟨fn.ntmps,rs,p.1,d,g,cs,q.1⟩
    else none
   |_=>none)
  |_=>none
 |none=>none
def yo.mid(D:yo)(s:St):St:=s.put D.d (.ib D.g (D.fb.map (·.ev s.sl)))
def Ey(Ua:List (Sum Nat (Nat×Bool×Nat)))(n:Nat)(st:St):Option Fe:=(Ua.mapM (Hi st)).map fun vs=>(vs,Ol Ua st.ow,trim n vs st.bx,dj (trim n vs st.bx).length st.ow)
def Yp(cf:Callee)(n:Nat)(D:yo)(args:List PV)(bx:Oa)(oc:List Loc)(r:Fe):Prop:=
 args.length<=D.nt/\∃o s1,ma cf n D.pre {sl:=yh 0 args,ow:=oc,al:=[],bx}=some (o,s1)/\
  match o with
  | .exit _=>False
  | .ret=>Ey D.Ua bx.length s1=some r
  | .normal=>∃o st,ma cf n D.body (D.mid s1)=some (o,st)/\(∀i,o≠.exit i)/\Ey D.Ua bx.length st=some r
def nJ(P:Program)(g n:Nat):Prop:=∀(a:List Value)(w:World),a.length=n->CallsDIn Fence.wide 0 P g a.toArray .returning w fun e b w'=>(∃v,e=.returned v)/\b=.returning/\w'=w
section
variable {P:Program} {w w':World} {Fr Fr':Nat→Nat} {β β':List Nat} {T:List Deferred} {base nt:Nat} {M:Nat→Prop} {w0:World} {F0:Nat→Nat} {st st':St} {a a':Act} {cf:Callee} {Γ:lf} {S:S0}
def Qr(st:St)(a:Act)(w:World)(β:List Nat)(g:Nat):Prop:=g∈β\/∃L∈st.ow,∃v,Ga a w β L=some v/\v.ownBlock=some g
def Rel.zbZ(R:Rel P T base M w0 F0 nt st a w Fr β)(c):Rel P c w.heap.size (Qr st a w β) w Fr nt st {a with defers:=c} w Fr β:=by
 have o:∀L,Ga {a with defers:=c} w β L=Ga a w β L:=fun L=>by rfl
 exact⟨R.sl,R.nt,⟨[],List.nodup_nil,rfl,fun D h=>by cases h⟩,R.bx,R.nd,fun L b=>by exact R.own L b,fun L b i d e v n g=>by exact R.sep L b i d e v n g,fun L b v g=>by exact R.out L b v g,fun q k=>by exact R.al q k,
  fun g j=>.inr (j.imp id fun⟨L,b,v,p,l⟩=>⟨L,b,v,na,l⟩),fun _ _ _=>⟨rfl,rfl⟩,Aa _,rfl,rfl,rfl⟩
def Rel.back{A t}{j}{k}{n}{l}{i}{d}(R:Rel P T base M w0 F0 nt st a w Fr β)(c:Rel P A w.heap.size (Qr st a w β) w Fr j k n l i d){o}(B:Marks t base l o):
 Rel P t base M w0 F0 j k {n with defers:=o} l i d:=by
 have G:∀L,Ga {n with defers:=o} l d L=Ga n l d L:=fun L=>by rfl
 exact⟨c.sl,c.nt,B,c.bx,c.nd,fun L e=>by exact c.own L e,fun L e z p r v F g=>by exact c.sep L e z p r v F g,fun L e v g=>by exact c.out L e v g,fun q D=>by exact c.al q D,
  fun g C=>(c.may g (C.imp id fun⟨L,e,v,E,y⟩=>⟨L,e,v,na,y⟩)).elim (fun h=>.inl (Xf R.ge h)) (fun h=>R.may g h),
  fun b x u=>by
   obtain⟨E,y⟩:=c.old b (mh x R.ge) fun h=>(R.may b h).elim (fun h=>by omega) u
   obtain⟨H,I⟩:=R.old b x u
   grind,
  Xf R.ge c.ge,c.os.trans R.os,c.tape.trans R.tape,c.output.trans R.output⟩
def Rel.marks{x}{i}{j}{y}{r}{d}{k}(R:Rel P T base M w0 F0 nt st a w Fr β)(v:Rel P x w.heap.size (Qr st a w β) w Fr i j y r d k):Marks T base r a.defers:=by
 obtain⟨t,B,C,l⟩:=R.df;refine⟨t,B,C,fun D o=>⟨(l D o).1,?_⟩⟩;have b:=(l D o).2;rw[(v.old D (Kh.1 b).1 fun g=>?_).1]
 ·exact b
 ·rcases g with g|⟨L,E,u,F,c⟩
  ·obtain⟨z,h,q⟩:=R.bx.at g
   grind
  ·obtain⟨J,p,h,_,n,cs,_,q⟩:=R.own L E
   rw[F]at h;cases h;rcases q with rfl|⟨G,z,A,e,I,rfl,H,_⟩
   ·cases c
   ·cases c<;>grind
def a1(hmZ:P.follows .mixedOrders=true)(hyn:P.funcs[kb]?=none)(Z:xc P Γ cf){n}{qs}{I J}{f}{D}(h:mu P qs I J f=some D){args}{bx}{oc}(E:args.length<=D.nt)
 {vs} (O:nm P Γ w Fr β args vs bx oc) {s1} (h1Z:ma cf n D.pre {sl:=yh 0 args,ow:=oc,al:=[],bx}=some (.normal,s1)) {Q}
 (t:∀(fn)(b)(lv'),Qj P D.g=true->fn.ntmps=D.nt->(∃fn,P.funcs[f]?=some fn/\D.nt=fn.ntmps)->de P qs f D.nt 0 J b=some (D.body,lv')->Yb b=[]->fn.results.toList.mapM (Dm P)=some D.Ua->∀(M)(L)(q)(z)(i),
   Rel P [] w.heap.size (se w β oc) w Fr D.nt (D.mid s1) M L q z->Le w Fr β L q z->ta L q z (D.fb.map (·.ev s1.sl)) i->(D.mid s1).al=[]->
   b.wpIn (fw none) 0 P (bodyPostM Fence.wide 0 P fn Q) {M with defers:={target:=.fn (.func D.g) i.toArray,args:=#[]}::M.defers} L):Enters P f vs w Q:=by
 unfold mu at h;split at h
 case h_2=>cases h
 rename_i fn v;split at h
 case h_2=>cases h
 rename_i a id ops b Y;split at h
 case h_2=>cases h
 rename_i d g first fb ty1 K U d'Z V j y p A F
 split at h
 case isFalse=>cases h
 rename_i u;obtain⟨hname,hra,hrb,rfl,k,rfl,hdn,C⟩:=u;obtain⟨cs,hcs,h⟩:=qb h;obtain⟨⟨pcZ,lva⟩,hpc,h⟩:=qb h;obtain⟨⟨bcZ,lvb⟩,X,h⟩:=qb h;obtain⟨rs,hrs,rfl⟩:=qm h;refine enters_of (by grind [Qj]) (fun e=>by grind) ?_;have hSZ:Good Γ ⟨w.heap.size,se w β oc,w,Fr,fn.ntmps,w,Fr,β,[]⟩:=⟨O.g,fun g hgZ=>⟨Γ.lt w O.g g hgZ,O.Nj g hgZ⟩⟩;have R0Z:=AA (nt:=fn.ntmps) O E;refine callsIn_wide.1 (callsIn_of_wp_marks (n:=0) v Y trivial ?_);refine wpIn_seq (yq (r:=none) hmZ Z hSZ (f:=f) ⟨fn,v,rfl⟩ (fun l e=>by cases e) a 0 I pcZ lva hpc (by rw[hra];simp) _ s1 .normal _ w _ h1Z rfl ⟨Fr,β,R0Z,Le.refl _ _ _⟩ fun M L hr1=>?_);have B:=Hm pcZ _ _ s1 h1Z rfl;have x:ops=#[⟨some d,.makeFunc (.func g) first fb,ty1,K,U,none⟩,⟨none,.defer ⟨.value (.tmp d),#[],j⟩,y,p,A,none⟩]:=by
  apply qi;exact F
 subst x;refine wpIn_seq (wpIn_region ?_);have H:cg P (.makeFunc (.func g) first fb)=some (.clos g cs):=by
  simp only[cg,k,if_true,hcs,fd]
 refine CU (cf:=cf) (S:=⟨w.heap.size,se w β oc,w,Fr,fn.ntmps,w,Fr,β,[]⟩) (st':=s1.put d (.ib g (cs.map (·.ev s1.sl)))) (c:=.clos g cs) H rfl (fun d'Z e=>by grind) hr1 fun N R hr2=>?_
 unfold wpOpsIn;simp only[List.getElem?_toArray,ro,vk,Region.wanted,if_true];obtain⟨T,β2Z,R2Z,hl2⟩:=hr2;have o:=R2Z.sl d;have W:look (s1.put d (.ib g (cs.map (·.ev s1.sl)))).sl d=.ib g (cs.map (·.ev s1.sl)):=by simp[St.put,Ae]
 rw[W]at o;obtain⟨i,hcv,hcr⟩:=o;refine⟨fun _ _=>trivial,?_⟩;have G:((Oper.semAt Fence.wide.round N.eval ⟨none,.defer ⟨.value (.tmp d),#[],j⟩,y,p,A,none⟩).run P R)=.ok (.defer {target:=.fn (.func g) i.toArray,args:=#[]}) R:=by
  rw[show Fence.wide.round=none from rfl,Oper.semAt_none];show(do let ddZ <-resolve N.eval ⟨.value (.tmp d),#[],j⟩ y;pure (Next.defer ddZ):Sem Next).run P R=_;have:N.eval (.tmp d)=.func (.func g) #[] i.toArray:=hcv;simp only[resolve,this,Deferred.ofValue,Qb,Lh,Rb];simp
 rw[G];exact t fn b lvb C rfl ⟨fn,v,rfl⟩ X hrb hrs N R T β2Z i R2Z hl2 hcr (by simp[yo.mid,St.put,B,Jb])
def Y0{args}{vs}{bx}{oc}(z:nm P Γ w Fr β args vs bx oc){fn}{Ua}(q:fn.results.toList.mapM (Dm P)=some Ua){i}{h}{g}{a}{b}
 (t:Rel P [] w.heap.size (se w β oc) w Fr fn.ntmps i h g a b) (n:Le w Fr β g a b) {y} {j} {l} {k} {c} {d} (u:Rel P y g.heap.size (Qr i h g b) g a fn.ntmps j l k c d) (o:Le g a b k c d)
 {r} (hf:Ey Ua bx.length j=some r):LeavesInM Fence.wide 0 P fn l.tmps (fun e w'=>∃v Fr' β',e=.returned v/\ui P w Fr β oc r.1 r.2.1 r.2.2.1 r.2.2.2 v w' Fr' β') h.defers .returning k:=by
 have x:=t.back u (t.marks u);exact Ks (S:=⟨w.heap.size,se w β oc,w,Fr,fn.ntmps,w,Fr,β,[]⟩) rfl h.defers {l with defers:=h.defers} k rfl ⟨c,d,x,n.trans o⟩ fun a3 A p _=>As q z.rel.bx.1 hf a3 A p
def w4(c:Good Γ S)(R:Rel P S.T S.base S.M S.w0 S.F0 S.nt st a w Fr β):∀g,Γ.D g->g<w.heap.size/\¬Qr st a w β g:=fun g d=>by
 obtain⟨b,e⟩:=c.Nj g d;refine⟨mh b R.ge,fun h=>?_⟩;rcases R.may g h with h|h<;>grind
theorem v2(T:P.follows .mixedOrders=true)(W:P.funcs[kb]?=none)(u:xc P Γ cf){n}{qs}{J K}{f}{D}(c:mu P qs J K f=some D)(G:nJ P D.g D.fb.length){args}{bx}{oc}{r}(h:Yp cf n D args bx oc r)
 {vs} (j:nm P Γ w Fr β args vs bx oc):Enters P f vs w fun e w'=>∃v Fr' β',e=.returned v/\ui P w Fr β oc r.1 r.2.1 r.2.2.1 r.2.2.2 v w' Fr' β':=by
 obtain⟨q,o,s1,h1Z,h2Z⟩:=h;cases o with
 |exit i=>grind
 |ret=>
  unfold mu at c;split at c
  case h_2=>cases c
  rename_i fn k;split at c
  case h_2=>cases c
  rename_i a id ops b d;split at c
  case h_2=>cases c
  split at c
  case isFalse=>cases c
  obtain⟨cs,I,c⟩:=qb c;obtain⟨⟨O,F⟩,t,c⟩:=qb c;obtain⟨⟨Q,L⟩,C,c⟩:=qb c;obtain⟨rs,x,rfl⟩:=qm c;refine enters_of (by grind [Qj]) (fun e=>by grind) ?_;have M:Good Γ ⟨w.heap.size,se w β oc,w,Fr,fn.ntmps,w,Fr,β,[]⟩:=⟨j.g,fun g E=>⟨Γ.lt w j.g g E,j.Nj g E⟩⟩;have H:=AA (nt:=fn.ntmps) j q;refine callsIn_wide.1 (callsIn_of_wp_marks (n:=0) k d trivial ?_);refine wpIn_seq (yq (r:=none) T u M (f:=f) ⟨fn,k,rfl⟩ (fun l e=>by cases e) a 0 J O F t na _ s1 .ret _ w _ h1Z rfl ⟨Fr,β,H,Le.refl _ _ _⟩ fun A y z=>?_);exact Ks rfl _ A y rfl z fun B N p _=>As x j.rel.bx.1 h2Z B N p
 |normal=>
  obtain⟨o,Y,h3Z,hno,hf⟩:=h2Z;refine a1 T W u c q j h1Z fun fn b X hent H k C hrb x A y t z d L S R Q=>?_
  have M:Good Γ ⟨w.heap.size,se w β oc,w,Fr,D.nt,w,Fr,β,[]⟩:=⟨j.g,fun g E=>⟨Γ.lt w j.g g E,j.Nj g E⟩⟩;have O:Good Γ ⟨y.heap.size,Qr (D.mid s1) A y z,y,t,D.nt,y,t,z,{target:=.fn (.func D.g) d.toArray,args:=#[]}::A.defers⟩:=⟨M.at L,w4 M L⟩;have RbZ:=L.zbZ ({target:=.fn (.func D.g) d.toArray,args:=#[]}::A.defers);refine yq (r:=none) T u O (f:=f) k (fun l e=>by cases e) b 0 K D.body X C na _ Y o _ y _ h3Z Q ⟨t,z,RbZ,Le.refl _ _ _⟩ fun B N p=>?_
  have I:LeavesInM Fence.wide 0 P fn B.tmps (fun e w'=>∃v Fr' β',e=.returned v/\ui P w Fr β oc r.1 r.2.1 r.2.2.1 r.2.2.2 v w' Fr' β') B.defers .returning N:=by
   have U:=p;obtain⟨Fr2,β2Z,R2Z,hl2⟩:=U;obtain⟨DsZ,d1Z,d2Z,d3Z⟩:=R2Z.df;rw[d2Z];refine HG ea DsZ B N d2Z p fun a3 w3Z V ht _=>?_
   obtain⟨Fr3,β3Z,Z,F⟩:=V;dsimp only at Z F;unfold LeavesInM;refine⟨ea,.inr ⟨(fun h=>by cases h),.func D.g,d.toArray,D.g,d.toArray,rfl,?_,fun _ _=>trivial,?_⟩⟩
   ·grind [GD,invoke]
   ·refine(G d w3Z (by have:=R.length;simpa using this)).mono ?_
    rintro e u'Z w' ⟨⟨v,rfl⟩,rfl,rfl⟩;rw[<-ht];exact Y0 (fn:=fn) j x (by rw[H];exact L) S (by rw[H];exact Z) F hf
  cases o with
  |exit i=>grind
  |normal=>exact I
  |ret=>exact I
end
section
variable {cf:Callee} {pf:aj} {kl:List Nat} {n k:Nat} {st st':St} {f:FuncId} {q:iq} {sl:List (Nat × PV)} {ow:List Loc} {al:List (Nat × Loc)} {bx:Oa}
variable {code:FuncId→Option pa} {n0:Nat} {plib:aj}
end
variable {lib:Callee}
def XR(c:UInt8):Bool:=(decide (65<=c.toNat)&&decide (c.toNat<=90))||((decide (97<=c.toNat)&&decide (c.toNat<=122))||((decide (48<=c.toNat)&&decide (c.toNat<=57))||decide (c.toNat=45)))
def G9(c):XR c=Sn c:=by
 have:=Lj (p:=fun n=>((decide (65<=n)&&decide (n<=90))||((decide (97<=n)&&decide (n<=122))||((decide (48<=n)&&decide (n<=57))||decide (n=45))))==(!((decide ((n|||32)<97)||decide (122<(n|||32)))&&((decide (n<48)||decide (57<n))&& !decide (n=45))))) Fb c;exact eq_of_beq this
def H9(s)(hs:s.length<=1000000000):da code lib 53 [.flat (.string (S s))] [] []=some ([.flat (.bool (Hf s))],false,[],[]):=by
 refine la lZ (qa rfl) ?_
 have a:=bk (body:=ma (da code lib) ja XB) (live:=[0,3]) (nb:=0) (fun(_:Unit) k=>⟨[(0,.flat (.string (S s))),(3,.flat (.int .i64 (k:Nat)))],[],[],[]⟩) s (fun _ _=>True)
  (fun _ k x=>if Sn x then .inl ()else .inr (.ret,⟨[(2,.flat (.bool false))],[],[],[]⟩)) (fun _=>(.exit 0,⟨[],[],[],[]⟩)) (fun _ k c _ e b d=>?_) (fun _ _=>by simp only[go_sem,simprocAttr]) (fun _ _ _ _ _ _ _ _=>trivial) (fun _ _ x r h=>by split at h<;>simp at h;rw[<-h];simp) (fun _ _=>?_) (fun _=>by simp) () trivial zm
 ·rw[SA]at a
  simp only[n0]at a;by_cases j:s.length<1
  ·have d:s=[]:=qz aa
   subst d;have g:(0:Int)<1:=aa
   exact xe @Ca.{0} @Hf.eq_1 @Int.ofNat_zero
  ·have g:¬(s.length:Int)<1:=aa
   have d:¬s=[]:=fun h=>by grind
   by_cases l:32<s.length
   ·have i:(32:Int)<s.length:=aa
    have b:¬s.length<=32:=aa
    exact Kb @Hf.eq_1 @Zh
   ·have i:¬(32:Int)<s.length:=aa
    have b:s.length<=32:=aa
    cases e:s.all Sn with
    |true=>
     simp only[e,if_true]at a;exact va @Hf.eq_1
    |false=>
     simp only[e,La,if_false]at a;exact va @Hf.eq_1
 ·have c1:(k:Int)<s.length:=aa
  have c2:(0:Int)<=(k:Nat):=aa
  have v:IntKind.i64.wrap ((k:Int)+1)=((k+1:Nat):Int):=wrap64 aa;rw[<-G9];unfold XR;obtain⟨n,l⟩:∃n,c.toNat=n:=⟨_,rfl⟩;rw[l];have g:((65:Int)<=((n:Nat):Int))=(65<=n):=by apply propext;omega
  have i:(((n:Nat):Int)<=(90:Int))=(n<=90):=by apply propext;omega
  have o:((97:Int)<=((n:Nat):Int))=(97<=n):=by apply propext;omega
  have p:(((n:Nat):Int)<=(122:Int))=(n<=122):=by apply propext;omega
  have q:((48:Int)<=((n:Nat):Int))=(48<=n):=by apply propext;omega
  have t:(((n:Nat):Int)<=(57:Int))=(n<=57):=by apply propext;omega
  have u:(((n:Nat):Int)=(45:Int))=(n=45):=by apply propext;omega
  rcases pb (65<=n)with b|b
  all_goals first|(exfalso;omega)|skip
  all_goals rcases pb (n<=90)with a2|a2
  all_goals first|(exfalso;omega)|skip
  all_goals rcases pb (97<=n)with a3|a3
  all_goals first|(exfalso;omega)|skip
  all_goals rcases pb (n<=122)with a4|a4
  all_goals first|(exfalso;omega)|skip
  all_goals rcases pb (48<=n)with a5|a5
  all_goals first|(exfalso;omega)|skip
  all_goals rcases pb (n<=57)with d|d
  all_goals first|(exfalso;omega)|skip
  all_goals rcases pb (n=45)with e|e
  all_goals first|(exfalso;omega)|skip
  all_goals
   first|have e1:=eq_false b|have e1:=eq_true b
   first|have e2:=eq_false a2|have e2:=eq_true a2
   first|have e3:=eq_false a3|have e3:=eq_true a3
   first|have e4:=eq_false a4|have e4:=eq_true a4
   first|have e5:=eq_false a5|have e5:=eq_true a5
   first|have e6:=eq_false d|have e6:=eq_true d
   first|have j:=eq_false e|have j:=eq_true e
   clear b a2 a3 a4 a5 d e
  all_goals exact va PS
 ·have c1:¬(s.length:Int)<s.length:=aa
  exact va PS
def Do{β:Type}(p:Nat->β->Bool):Nat->List β->Bool
 |_,[]=>true
 |k,x::t=>p k x&&Do p (k+1) t
theorem IV{β}{p:Nat->β->Bool}{r}{fin}:∀(L)(k),Te (fun(_:Unit) k x=>if p k x then .inl ()else .inr r) fin () k L=if Do p k L then fin ()else r
 |[],k=>rfl
 |x::t,k=>by
  rw[Te,Do];cases a:p k x with
  |true=>rw[if_pos rfl,od];exact IV t _
  |false=>rfl
def okB(s:ba)(k:Nat)(c:UInt8):Bool:=!(decide (c.toNat<32)||(decide (126<c.toNat)||Tb s [61,63] k))
def dk(long:Nat)(w:ba):Bool:=!(decide (long+w.length<1)||decide (60<long+w.length))
def iO(c)(s):∃p ps,db c s=p::ps:=by
 cases s with
 |nil=>exact⟨_,_,rfl⟩
 |cons x l=>
  simp only[db];split
  ·simp
  ·split<;>exact⟨_,_,rfl⟩
theorem hE(s):∀(t)(k long),long<=60->(match Kg s k long t with|none=>false|some n=>decide (0<n))=(Do (okB s) k t&&(match db 32 t with|p::ps=>dk long p&&ps.all (dk 0)|[]=>false))
 |[],k,long,r=>by
  simp only[Kg,Do,db,dk,Ca,List.all_nil,sk,od,pi];by_cases h:0<long<;>grind
 |c::t,k,long,r=>by
  obtain⟨p,ps,e⟩:=iO 32 t;rw[Kg,Do];obtain⟨ok,g⟩:∃b,okB s k c=b:=⟨_,rfl⟩;have l:bn s k c long=((decide (c.toNat=32)&&decide (long=0))|| !ok):=by
   rw[<-g];unfold bn okB;rw[Bool.not_not]
  rw[l,g];cases ok with
  |false=>simp
  |true=>
   simp only[am,pn,od];by_cases a:c.toNat=32
   ·have i:c=32:=Xb.1 a
    have q:=hE s t (k+1) 0 aa;have j:Bh c long=0:=by simp only[Bh,a,if_true]
    rw[j,db,if_pos i];by_cases u:long=0
    ·grind [dk]
    ·have d:¬60<long+0:=aa
     have o:¬long+0<1:=aa
     simp only[a,u,decide_true,decide_false,Zh,Ug,La,if_false,Nat.not_lt_zero];rw[q,e];simp only[dk,Ca,d,o,zk,decide_false,pn,gn,od,ld]
   ·have i:¬c=32:=fun h=>a bh
    have j:Bh c long=long+1:=by simp only[Bh,a,if_false]
    rw[j,db,if_neg i,e];simp only[a,decide_false,De,Ug];by_cases d:60<long+1
    ·grind [dk]
    ·have q:=hE s t (k+1) (long+1) aa
     simp only[d,decide_false,La,if_false];rw[q,e];have e1:dk long (c::p)=dk (long+1) p:=by unfold dk;rw[ua,show long+(p.length+1)=long+1+p.length from by omega]
     grind
def ft(s:ba):Bool:=decide (s=[])||((db 32 s).all (dk 0)&&Do (okB s) 0 s)
def zbi(s):ft s=Fi s:=by
 unfold ft Fi;have h:=hE s s 0 0 aa;obtain⟨p,ps,a⟩:=iO 32 s
 grind
def zbj(s)(hs:s.length<=1000000000):da code lib 128 [.flat (.string (S s))] [] []=some ([.flat (.bool (Fi s))],false,[],[]):=by
 refine la mZ (qa rfl) ?_;rw[<-zbi];have z:(⟨#[]⟩:ByteArray)=S []:=rfl;by_cases q:s=[]
 ·have j:=eq_true q
  exact va @ft.eq_1
 have j:=eq_false q;have hcut:=hO (lib:=lib) s 32 hs;have l:((32:UInt8).toNat:Int)=32:=rfl;rw[l]at hcut;have o:=Bu 32 s;obtain⟨L,w⟩:∃L,db 32 s=L:=⟨_,rfl⟩;rw[w]at hcut o
 have b:=bk (body:=ma (da code lib) ja YB) (live:=[0,3,4]) (nb:=0) (fun(_:Unit) k=>⟨[(0,.flat (.string (S s))),(3,.ia L.length (wa L)),(4,.flat (.int .i64 (k:Nat)))],[.slot 3],[],[]⟩) L (fun _ _=>True)
  (fun _ k x=>if dk 0 x then .inl ()else .inr (.ret,⟨[(2,.flat (.bool false))],[],[],[]⟩)) (fun _=>(.exit 0,⟨[(0,.flat (.string (S s)))],[],[],[]⟩)) (fun _ k x _ A y t=>?_) (fun _ _=>by simp only[go_sem,simprocAttr]) (fun _ _ _ _ _ _ _ _=>trivial) (fun _ _ x r h=>by split at h<;>simp at h;rw[<-h];simp) (fun _ _=>?_) (fun _=>by simp) () trivial zm
 ·have d:=bk (body:=ma (da code lib) ja ZB) (live:=[0,5]) (nb:=0) (fun(_:Unit) k=>⟨[(0,.flat (.string (S s))),(5,.flat (.int .i64 (k:Nat)))],[],[],[]⟩) s (fun _ _=>True)
   (fun _ k x=>if okB s k x then .inl ()else .inr (.ret,⟨[(2,.flat (.bool false))],[],[],[]⟩)) (fun _=>(.exit 2,⟨[],[],[],[]⟩)) (fun _ k c _ A y t=>?_) (fun _ _=>by simp only[go_sem,simprocAttr]) (fun _ _ _ _ _ _ _ _=>trivial) (fun _ _ x r h=>by split at h<;>simp at h;rw[<-h];simp) (fun _ _=>?_) (fun _=>by simp) () trivial zm
  ·rw[SA]at b
   rw[IV]at d;simp only[n0]at b d;cases e:L.all (dk 0)with
   |false=>
    simp only[e,La,if_false]at b;exact xe @ft.eq_1 @dd @De
   |true=>
    simp only[e,if_true]at b;cases g:Do (okB s) 0 s with
    |false=>
     simp only[g,La,if_false]at d;exact Sj @ft.eq_1 @dd @od @Zh @sk
    |true=>
     simp only[g,if_true]at d;exact Sj @ft.eq_1 @dd @od @Zh @sk
  ·have c1:(k:Int)<s.length:=aa
   have c2:(0:Int)<=(k:Nat):=aa
   have B:IntKind.i64.wrap ((k:Int)+1)=((k+1:Nat):Int):=wrap64 aa;have C:(⟨#[61,63]⟩:ByteArray)=S [61,63]:=rfl;have g:=Io (lib:=lib) s [61,63] k hs ea aa;unfold okB;obtain⟨n,p⟩:∃n,c.toNat=n:=⟨_,rfl⟩;obtain⟨i,e⟩:∃i,Tb s [61,63] k=i:=⟨_,rfl⟩;rw[p,e];rw[e]at g;have u:(((n:Nat):Int)<(32:Int))=(n<32):=by apply propext;omega
   have v:((126:Int)<((n:Nat):Int))=(126<n):=by apply propext;omega
   rcases pb (n<32)with a|a
   all_goals first|(exfalso;omega)|skip
   all_goals rcases pb (126<n)with a2|a2
   all_goals first|(exfalso;omega)|skip
   all_goals
    first|have e1:=eq_false a|have e1:=eq_true a
    first|have e2:=eq_false a2|have e2:=eq_true a2
    clear a a2
   all_goals cases i
   all_goals exact va RS
  ·have c1:¬(s.length:Int)<s.length:=aa
   exact va RS
 ·have c1:(k:Int)<L.length:=aa
  have c2:(0:Int)<=(k:Nat):=aa
  have B:IntKind.i64.wrap ((k:Int)+1)=((k+1:Nat):Int):=wrap64 aa;have e:(wa L).drop k=.flat (.string (S x))::(wa L).drop (k+1):=by simp only[wa,<-dm,t,gc]
  have d:1<=((wa L).drop (k+1)).length+1:=aa
  unfold dk;obtain⟨n,p⟩:∃n,x.length=n:=⟨_,rfl⟩;rw[p,ld];have u:(((n:Nat):Int)<(1:Int))=(n<1):=by apply propext;omega
  have v:((60:Int)<((n:Nat):Int))=(60<n):=by apply propext;omega
  rcases pb (n<1)with a|a
  all_goals first|(exfalso;omega)|skip
  all_goals rcases pb (60<n)with a2|a2
  all_goals first|(exfalso;omega)|skip
  all_goals
   first|have e1:=eq_false a|have e1:=eq_true a
   first|have e2:=eq_false a2|have e2:=eq_true a2
   clear a a2
  all_goals exact xe QS @ua.{0} @cd
 ·have c1:¬(L.length:Int)<L.length:=aa
  exact va QS
def Nr(lib:Callee)(enc:ba->ba):Prop:=∀s:ba,s.length<=100->(enc s).length<=136/\lib 177 [.flat (.string (S s))] [] []=some ([.flat (.string (S (enc s)))],false,[],[])
def zbH{enc}(H:Nr lib enc)(s:ba)(h:s.length<=100):da code lib 177 [.flat (.string (S s))] [] []=some ([.flat (.string (S (enc s)))],false,[],[]):=
 Ef ha ra (H s h).2
def bO{enc}(H:Nr lib enc)(s:ba)(h:s.length<=100):da code lib 130 [.flat (.string (S s))] [] []=some ([.flat (.string (S (Gc enc s)))],false,[],[]):=by
 refine la oZ (qa rfl) ?_;have d:=zbH H s h;have hf:(⟨#[61,63,85,84,70,45,56,63,66,63]⟩:ByteArray)=S Kd:=rfl;have b:(⟨#[63,61]⟩:ByteArray)=S [63,61]:=rfl;have a:Kd++enc s++[63,61]=Gc enc s:=rfl;have c:=(H s h).1;have e:Kd.length+(enc s).length<=za:=by unfold za;simp only[Kd,ua,Ca];omega
 have g:(Kd++enc s).length+2<=za:=by unfold za;simp only[Kd,Ba,ua,Ca];omega
 exact va @ua.{0}
def Jq(enc:ba->ba)(q:List ba×ba)(_:Nat)(r:Nat):(List ba×ba) ⊕ (Out×St):=.inl (if 45<q.2.length+(Ka r).length then(q.1++[Gc enc q.2],Ka r)else(q.1,q.2++Ka r))
theorem RI(enc)(fin):∀(l)(out)(a)(k),Te (Jq enc) fin (out,a) k l=fin (Ke (fun o x=>o++[x]) enc out a l)
 |[],out,a,k=>rfl
 |r::l,out,a,k=>by
  simp only[Te,Jq,Ke];by_cases h:45<a.length+(Ka r).length
  ·simp only[h,if_true];exact RI enc fin l _ _ _
  ·simp only[h,if_false];exact RI enc fin l _ _ _
theorem JP:∀(L o:List ba),L.foldl (fun o x=>o++[x]) o=o++L
 |[],o=>by simp
 |x::L,o=>by rw[Cg,JP L];simp
theorem oE(enc):∀(l)(out)(a),a.length<=45->(Ke (fun o x=>o++[x]) enc out a l).2.length<=45/\(Ke (fun o x=>o++[x]) enc out a l).1.length<=out.length+l.length
 |[],out,a,h=>⟨h,by simp[Ke]⟩
 |r::l,out,a,h=>by
  have b:=ah r;simp only[Ke];split
  ·have:=oE enc l (out++[Gc enc a]) (Ka r) aa
   grind
  ·have:=oE enc l out (a++Ka r) na
   grind
def Ds(R:List Nat)(q:List ba×ba)(k:Nat):St:=⟨[(3,.ia q.1.length (wa q.1)),(4,.ia R.length (Ld R)),(5,.flat (.string (S q.2))),(6,.flat (.int .i64 (k:Nat)))],[.slot 3],[],[]⟩
theorem qQ:∀a,Ib (Ld a)=true
 |[]=>rfl
 |c::a=>by show Ib (.flat (.int .i64 (c:Nat))::Ld a)=true;simp only[Ib,PV.pj,qQ a,od]
def zga{enc:ba->ba}(H:Nr lib enc)(s:ba)(hs:s.length<=1000000):da code lib 66 [.flat (.string (S s))] [] []=some ([.ia (Ad enc s).length (wa (Ad enc s))],true,[],[]):=by
 have g:(⟨#[]⟩:ByteArray)=S []:=rfl;have j:=zbj (lib:=lib) s aa;by_cases p:s=[]
 ·have d:=eq_true p
  refine la hD (qa rfl) ?_;simp only[go_sem,simprocAttr,g,Bo,d,Ad,wa,Ve,Ca]
 have d:=eq_false p;cases v:Fi s with
 |true=>
  rw[v]at j;have hcut:=hO (lib:=lib) s 32 aa;have a:((32:UInt8).toNat:Int)=32:=rfl;rw[a]at hcut;refine la hD (qa rfl) ?_;exact xe @Ad.eq_1 @dd @Xd
 |false=>
  rw[v]at j;have l:=eU (lib:=lib) s aa;have u:=aH s;obtain⟨R,z⟩:∃R,Gd s=R:=⟨_,rfl⟩;rw[z]at l u
  have b:=bk (body:=ma (da code lib) ja bC) (live:=[3,4,5,6]) (nb:=0) (Ds R) R (fun q k=>q.2.length<=45/\q.1.length<=k)
   (Jq enc) (fun q=>(.exit 0,⟨[(3,.ia q.1.length (wa q.1)),(5,.flat (.string (S q.2)))],[.slot 3],[],[]⟩)) (fun⟨out,a⟩ k r n i c A=>?_) (fun _ _=>by simp only[Ds,go_sem,simprocAttr]) (fun⟨out,a⟩ k r a' n _ _ h=>by
     grind [ah,Jq]) (fun _ _ x r h=>by grind [Jq]) (fun⟨out,a⟩ n=>?_) (fun _=>by simp) ([],[]) ⟨ea,Aa _⟩ (by grind [ja])
  ·rw[RI]at b
   have i:=oE enc R [] [] ea;have c:=Jy (fun o x=>o++[x]) enc R [] [];obtain⟨⟨out,a⟩,w⟩:∃q,Ke (fun o x=>o++[x]) enc [] [] R=q:=⟨_,rfl⟩;rw[w]at b i c;dsimp only at i c;rw[JP,Ra]at c;simp only[Ds,n0,Ca,wa,Ve]at b;have e2:List.map (fun x=>PV.flat (.string (S x))) out=wa out:=rfl;rw[e2]at b;have e:=bO H a aa;have t:out.length+1<=za:=by unfold za;simp only[Ca]at i;omega
   have e1:[PV.flat (.string (S (Gc enc a)))]=wa [Gc enc a]:=rfl;have y:Ad enc s=out++[Gc enc a]:=by simp only[Ad,p,v,z,La,if_false];exact c
   rw[y];refine la hD (qa rfl) ?_;simp only[go_sem,simprocAttr,g,Bo,d,j,l,qQ,b,e,cd,Lf,t]
   grind [tr]
  ·dsimp only at n
   have c1:(k:Int)<R.length:=aa
   have c2:(0:Int)<=(k:Nat):=aa
   have C:IntKind.i64.wrap ((k:Int)+1)=((k+1:Nat):Int):=wrap64 aa;have w:(Ld R).drop k=.flat (.int .i64 (r:Nat))::(Ld R).drop (k+1):=by simp only[Ld,<-dm,A,gc]
   have i:1<=((Ld R).drop (k+1)).length+1:=aa
   have c:=yn (lib:=lib) r;have E:=ah r;have D:IntKind.i64.wrap ((a.length:Int)+((Ka r).length:Int))=((a.length+(Ka r).length:Nat):Int):=by rw[wrap64 aa];rfl
   have F:a.length+(Ka r).length<=za:=He
   have B:(Ka r).length<=za:=He
   have t:out.length+1<=za:=He
   have e:=bO H a aa;have e1:[PV.flat (.string (S (Gc enc a)))]=wa [Gc enc a]:=rfl;by_cases h:45<a.length+(Ka r).length
   ·have y:(45:Int)<((a.length+(Ka r).length:Nat):Int):=aa
    simp only[oH,Ds,Jq,go_sem,simprocAttr,Xa,Ij,ic,c1,c2,C,D,w,i,ua,c,h,y,e,g,t,B,cd,Lf,Ra]
    grind [tr]
   ·have y:¬(45:Int)<((a.length+(Ka r).length:Nat):Int):=aa
    exact ye oH @Ds.eq_1 @Jq.eq_1 @sE @ua.{0} @cd
  ·dsimp only at n
   have c1:¬(R.length:Int)<R.length:=aa
   exact Kb oH @Ds.eq_1
def Kq(q:ba×Nat)(_:Nat)(x:ba):(ba×Nat) ⊕ (Out×St):=.inl (Pg q x)
theorem MV(fin):∀(l)(q)(k),Te Kq fin q k l=fin (l.foldl Pg q)
 |[],q,k=>rfl
 |x::l,q,k=>by simp only[Te,Kq,Cg];exact MV fin l _ _
def Fs(L:List ba)(q:ba×Nat)(k:Nat):St:=⟨[(6,.flat (.string (S q.1))),(7,.flat (.int .i64 (q.2:Nat))),(8,.ia L.length (wa L)),(9,.flat (.int .i64 (k:Nat)))],[.slot 8],[],[]⟩
theorem gJ{enc}(B:Wi lib enc)(H:Nr lib enc)(f v:ba)(I:v.length<=10000)(hf:f.length<=10000):da code lib 30 [.flat (.string (S f)),.flat (.string (S v))] [] []=
 some ([.flat (.string (S (if Hf f then Ze enc f v else[]))),.flat (.int .i64 (if Hf f then 0 else 1))],false,[],[]):=by
 refine la nZ (qa rfl) ?_;have t:=H9 (lib:=lib) f aa;have g:(⟨#[]⟩:ByteArray)=S []:=rfl;have i:(⟨#[58]⟩:ByteArray)=S [58]:=rfl;have e:(⟨#[13,10]⟩:ByteArray)=S [13,10]:=rfl;have j:(⟨#[32]⟩:ByteArray)=S [32]:=rfl;cases c:Hf f with
 |false=>
  rw[c]at t;exact sa
 |true=>
  rw[c]at t;have A:=zga H v aa;have d:=aJ B v I;obtain⟨L,z⟩:∃L,Ad enc v=L:=⟨_,rfl⟩;rw[z]at A d;have a:=bk (body:=ma (da code lib) ja aC) (live:=[6,7,8,9]) (nb:=0) (Fs L) L (fun q k=>Qq q k) Kq (fun q=>(.exit 0,⟨[(6,.flat (.string (S q.1)))],[],[],[]⟩)) (fun⟨l,long⟩ k x n G E F=>?_) (fun _ _=>by simp only[Fs,go_sem,simprocAttr]) (fun q k x a' n G R h=>by
   grind [Kq,tI]) (fun _ _ x r h=>by grind [Kq]) (fun⟨l,long⟩ n=>?_) (fun _=>by simp) (f++[58],f.length+1) ⟨na,aa⟩ (by grind [ja])
  ·rw[MV]at a
   have b:=Gy L 0 (f++[58],f.length+1) ⟨na,aa⟩ d;obtain⟨⟨l,long⟩,y⟩:∃q,L.foldl Pg (f++[58],f.length+1)=q:=⟨_,rfl⟩;rw[y]at a b;dsimp only at b;have p:Ze enc f v=l++[13,10]:=by simp only[Ze,z,y]
   have u:f.length+1<=za:=He
   have w:l.length+2<=za:=He
   have o:(f++[58]).length=f.length+1:=ea
   simp only[Fs,n0]at a;simp only[go_sem,simprocAttr,t,g,i,e,c,Ij,Xa,ua,o,u,w,A,a,p,dd]
  ·obtain⟨C,D⟩:=n
   dsimp only at C D;have J:=d.2 x (nh E);have c1:(k:Int)<L.length:=aa
   have c2:(0:Int)<=(k:Nat):=aa
   have M:IntKind.i64.wrap ((k:Int)+1)=((k+1:Nat):Int):=wrap64 aa;have p:(wa L).drop k=.flat (.string (S x))::(wa L).drop (k+1):=by simp only[wa,<-dm,F,gc]
   have o:1<=((wa L).drop (k+1)).length+1:=aa
   have N:IntKind.i64.wrap ((long:Int)+1)=((long+1:Nat):Int):=wrap64 aa;have O:IntKind.i64.wrap (((long+1:Nat):Int)+(x.length:Int))=((long+1+x.length:Nat):Int):=by rw[wrap64 aa];rfl
   have P:IntKind.i64.wrap 1=1:=ha
   have Q:IntKind.i64.wrap (1+(x.length:Int))=((1+x.length:Nat):Int):=by rw[wrap64 aa];rfl
   have u:l.length+2<=za:=He
   have w:(l++[13,10]).length+1<=za:=by unfold za;simp only[Ba,ua,Ca];omega
   have K:(l++[13,10]++[32]).length+x.length<=za:=by unfold za;simp only[Ba,ua,Ca];omega
   have T:l.length+1<=za:=He
   have U:(l++[32]).length+x.length<=za:=by unfold za;simp only[Ba,ua,Ca];omega
   by_cases h:76<=x.length+long
   ·have y:(76:Int)<((long+1+x.length:Nat):Int):=aa
    have b:ak x long=true:=by simp[ak,h]
    have e1:jk l x long=l++[13,10]++[32]++x:=by simp[jk,b]
    have e2:fl x long=1+x.length:=by simp[fl,b]
    simp only[nH,Fs,Kq,Pg,e1,e2,go_sem,simprocAttr,Xa,Ij,ic,c1,c2,M,N,O,P,Q,p,o,ua,y,e,j,u,w,K]
   ·have y:¬(76:Int)<((long+1+x.length:Nat):Int):=aa
    have b:ak x long=false:=by simp[ak,h]
    have e1:jk l x long=l++[32]++x:=by simp[jk,b]
    have e2:fl x long=long+1+x.length:=by simp[fl,b];omega
    exact ye nH @Fs.eq_1 @Kq.eq_1 @Pg.eq_1 @cd @ua.{0}
  ·have c1:¬(L.length:Int)<L.length:=aa
   exact Kb nH @Fs.eq_1
def FT(cf:Callee)(live:List Nat)(Q:St->Prop):BT->St->Prop
 | .done,st=>Q (st.Ye live)
 | .one o t,st=>∃s,stepG cf st o=some s/\FT cf live Q t s
 | .two o t r,st=>(∃s,stepG cf st o=some s/\FT cf live Q t s)/\FT cf live Q r st
def Wp(cf:Callee)(n:Nat):ka->(Out->St->Prop)->St->Prop
 | .seq x y,Q,st=>Wp cf n x (fun o s=>match o with
   | .normal=>Wp cf n y Q s
   |o=>Q o s) st
 | .Od live pre t,Q,st=>∃a,Tf cf pre st=some a/\FT cf live (fun s=>Q .normal s) t a
 |c,Q,st=>∃o s,ma cf n c st=some (o,s)/\Q o s
def zgj{cf:Callee}{n:Nat}{c:ka}{Q:Out->St->Prop}{st:St}(d:∀a b,c≠.seq a b)(e:∀l p t,c≠.Od l p t)(h:Wp cf n c Q st):∃o s,ma cf n c st=some (o,s)/\Q o s:=by
 cases c<;>first|exact h|exact absurd rfl (d _ _)|exact absurd rfl (e _ _ _)
theorem NP{cf:Callee}{live}{Q}{g:Nat->BT}{cs}{s:St}:∀(l),FT cf live Q (Ns g cs l) s->∀j∈l,∃s',stepG cf s (rb cs j)=some s'/\FT cf live Q (g j) s'
 |[],_,j,a=>by cases a
 |[i],h,j,a=>by
  obtain rfl:j=i:=na
  exact h
 |i::k::l,h,j,a=>by
  obtain⟨b,c⟩:=h;rcases wb.1 a with rfl|a
  ·exact b
  ·exact NP (k::l) c j a
section
variable {P:Program} {Γ:lf} {cf:Callee}
theorem j0{r}{S:S0}(hmZ:P.follows .mixedOrders=true)(H:xc P Γ cf)(Y:Good Γ S){n}{f}(T:∃fn,P.funcs[f]?=some fn/\S.nt=fn.ntmps)(W:∀l,r=some l->∃X,S.sw.heap[l]?=some (Obj.loop X)):
 ∀(code:Code)(qs)(B)(lv)(c)(k),de P qs f S.nt B lv code=some (c,k)->(∀j q,(Yb code)[j]?=some q->Ql P f (B+j)=some q)->∀(Q':Out->St->Prop)(st)(a)(w)(Q),
 Wp cf n c Q' st->st.al=[]->Rl P S st a w->(∀o st' a' w',Q' o st'->st'.al=[]->Rl P S st' a' w'->Q o.ex a' w')->code.wpIn (fw r) 0 P Q a w:=by
 intro code
 have base:∀(code:Code)(qs)(B)(lv)(c)(k),(∀a b,c≠.seq a b)->(∀l p t,c≠.Od l p t)->de P qs f S.nt B lv code=some (c,k)->(∀j q,(Yb code)[j]?=some q->Ql P f (B+j)=some q)->∀(Q':Out->St->Prop)(st)(a)(w)(Q),
  Wp cf n c Q' st->st.al=[]->Rl P S st a w->(∀o st' a' w',Q' o st'->st'.al=[]->Rl P S st' a' w'->Q o.ex a' w')->code.wpIn (fw r) 0 P Q a w:=by
  intro code qs B lv c k n1 n2 u i Q' st a w Q D d hr C;obtain⟨o,s,y,z⟩:=zgj n1 n2 D;exact yq hmZ H Y T W code B lv c k u i st s o a w Q y d hr fun a' w' v=>C o s a' w' z (Hm c st o s y d) v
 induction code with
 |seq x y E F=>
  intro qs B lv c k u i Q' st a w Q D d hr C;obtain⟨⟨c1,G⟩,M,u⟩:=qb u;obtain⟨⟨c2,I⟩,N,u⟩:=qm u;cases u;refine wpIn_seq (E qs B lv c1 G M (fun j q J=>i j q (by grind [Yb])) _ st a w _ D d hr fun o s a' w' z A v=>?_);cases o with
  |normal=>exact F qs _ G c2 I N (fun j q J=>by have:=i ((Yb x).length+j) q (by simp only[Yb];grind);grind) Q' s a' w' Q z A v C
  |exit id=>exact C _ _ a' w' z A v
  |ret=>exact C _ _ a' w' z A v
 |region id ops E=>
  intro qs B lv c k u i Q' st a w Q D d hr C;have G:=u;cases lv with
  |nil=>exact base _ qs B [] c k (by rintro a b rfl;simp[de,Lp]at u) (by rintro a b t rfl;simp[de,Lp]at u) u i Q' st a w Q D d hr C
  |cons l lv=>
   simp only[de]at u;split at u
   case h_2=>cases u;exact base _ qs B _ _ _ (by intro a b e;cases e) (by intro a b t e;cases e) G i Q' st a w Q D d hr C
   rename_i c0Z y;cases u;unfold bD at y;have F:∀q:List Wa×BT,nu P qs S.nt ops=some q->E=true->ka.Od l q.1 q.2=c->(Code.region id ops E).wpIn (fw r) 0 P Q a w:=fun q z K e=>by
    cases e;subst K;obtain⟨skZ,M,N⟩:=D;obtain⟨cs,I,z⟩:=qb z;obtain⟨cs0,O,rfl⟩:=qm I;obtain⟨hlen,Z⟩:=sv O;split at z
    case isFalse=>cases z
    rename_i V;cases z;refine wpIn_region_any hmZ ?_;have v:Rl P S st a {w with drawn:=w.drawn+1}:=by
     obtain⟨Fr,β,R,hlZ⟩:=hr;have hbZ:Below w.heap.size w {w with drawn:=w.drawn+1}:=⟨rfl,rfl,rfl,Aa _,fun _ _=>rfl⟩;obtain⟨R'Z,U⟩:=R.grow hbZ (Fr':=Fr) (fun _ _=>rfl);exact⟨Fr,β,R'Z,hlZ.trans U⟩
    exact MO H Y (ali:=ops.toList.filterMap Vr) V (fun j c J=>by grind [VR]) d M
     (TP:=fun t s=>FT cf l (fun s=>Q' .normal s) t s) (Dies:=fun _ _=>False) (fun g s L h j J=>.inl (NP L h j J))
     (fun s a w h hr=>C .normal _ a w h (Ay (cf:=cf) (live:=l) .done s _ rfl) (hr.Ye l)) (fun _ _ h=>h.elim) N v
   split at y
   ·rename_i K
    obtain⟨q,z,e⟩:=qm y;exact F q z na e
   split at y
   ·rename_i q z
    cases y;exact base _ qs B _ _ _ (by intro a b e;cases e) (by intro a b t e;cases e) G i Q' st a w Q D d hr C
   ·split at y
    ·rename_i K
     obtain⟨q,z,e⟩:=qm y;exact F q z K e
    ·cases y
 |scope b y=>
  intro qs B lv c k u i Q' st a w Q D d hr C;refine XV (y qs B lv c k u (fun j q J=>i j q (by grind [Yb])) Q' st a w _ D d hr fun o s a' w' z A v=>⟨C o s a' w' z A v,fun l=>Out.nP o l⟩)
 |_=>
  intro qs B lv c k u i Q' st a w Q D d hr C;exact base _ qs B lv c k (by rintro a b rfl;cases lv<;>simp[de,Lp,zw,QA]at u) (by rintro a b t rfl;cases lv<;>simp[de,Lp,zw,QA]at u) u i Q' st a w Q D d hr C
theorem Cy{live}{Q:St->Prop}{F}(a:Q F):∀(t)(st),wd cf live t st=some F->FT cf live Q t st
 | .done,st,h=>by cases h;exact a
 | .one o t,st,h=>by
   obtain⟨s,b,c⟩:=qb h;exact⟨s,b,Cy a t s c⟩
 | .two o t r,st,h=>by
   obtain⟨b,c⟩:=Sv h;obtain⟨s,d,e⟩:=qb b;exact⟨⟨s,d,Cy a t s e⟩,Cy a r st c⟩
theorem Dy{n}:∀(c){Q:Out->St->Prop}{st o s},ma cf n c st=some (o,s)->Q o s->Wp cf n c Q st
 | .seq x y,Q,st,o,s,h,a=>by
   obtain⟨⟨e,s1⟩,d,b⟩:=qb h;refine Dy x d ?_;cases e with
   |normal=>exact Dy y b a
   |exit i=>cases b;exact a
   |ret=>cases b;exact a
 | .Od live pre t,Q,st,o,s,h,a=>by
   obtain⟨F,d,b⟩:=qm h;obtain⟨e,g,j⟩:=qb d;cases b;exact⟨e,g,Cy (Q:=fun s=>Q .normal s) a t e j⟩
 | .skip,Q,st,o,s,h,a=>⟨o,s,h,a⟩
 | .Ab _ _ _,Q,st,o,s,h,a=>⟨o,s,h,a⟩
 | .cond _ _ _,Q,st,o,s,h,a=>⟨o,s,h,a⟩
 | .block _ _,Q,st,o,s,h,a=>⟨o,s,h,a⟩
 | .loop _ _,Q,st,o,s,h,a=>⟨o,s,h,a⟩
 | .range _ _ _ _,Q,st,o,s,h,a=>⟨o,s,h,a⟩
 | .exit _ _,Q,st,o,s,h,a=>⟨o,s,h,a⟩
 | .ret _,Q,st,o,s,h,a=>⟨o,s,h,a⟩
def WT{n}{c}{Ua}{bx}{st}{r}(h:Uj Ua bx (ma cf n c st)=some r):Wp cf n c (fun o s=>Uj Ua bx (some (o,s))=some r) st:=by
 cases a:ma cf n c st with
 |none=>rw[a]at h;cases h
 |some q=>obtain⟨o,s⟩:=q;rw[a]at h;exact Dy c a h
def k8{Ua}{bx}{o}{st:St}{r}(h:Uj Ua bx (some (o,st))=some r):(∀i,o≠.exit i)/\(Ua.mapM (Hi st)).map (fun vs=>(vs,Ol Ua st.ow,trim bx.length vs st.bx,dj (trim bx.length vs st.bx).length st.ow))=some r:=by
 have a:Ol Ua st.ow=kj.Hp Ua st.ow:=by
  have b:∀s,decide (Loc.slot s∈st.ow)=owns st.ow (.slot s):=fun s=>by grind [vj]
  clear h;generalize Ua=rs;rcases rs with _|⟨q,_|⟨c,rs⟩⟩
  ·rfl
  ·cases q with
   |inl s=>exact b s
   |inr x=>rfl
  ·cases q<;>rfl
 have fin:kj Ua bx st (Ng st Ua)=some r->(Ua.mapM (Hi st)).map (fun vs=>(vs,Ol Ua st.ow,trim bx.length vs st.bx,dj (trim bx.length vs st.bx).length st.ow))=some r:=fun h=>by
  rw[kA];cases hr:Ng st Ua with
  |none=>rw[hr]at h;cases h
  |some vs=>rw[hr]at h;simp only[fd,a,yt];exact h
 cases o with
 |exit i=>cases h
 |normal=>exact⟨fun i e=>by(cases e),fin h⟩
 |ret=>exact⟨fun i e=>by(cases e),fin h⟩
theorem G3(I:P.follows .mixedOrders=true)(y:xc P Γ cf){f}{lv}{c}(hf:f≠kb)(a:Cm P lv f=some c){n}{args}{bx}{oc}{t}{os}{bx'}{oc'}(k:args.length<=c.nt)
 (h:Wp cf n c.body (fun o s=>Uj c.Ua bx (some (o,s))=some (t,os,bx',oc')) ⟨yh 0 args,oc,[],bx⟩):∀w Fr β vs,nm P Γ w Fr β args vs bx oc->
 Enters P f vs w fun e w'=>∃v Fr' β',e=.returned v/\ui P w Fr β oc t os bx' oc' v w' Fr' β':=by
 unfold Cm at a;split at a
 case h_2=>cases a
 rename_i fn j;split at a
 case h_2=>cases a
 rename_i body b;split at a
 case isFalse=>cases a
 obtain⟨⟨E,z⟩,x,a⟩:=qb a;obtain⟨rg,K,a⟩:=qb a;obtain⟨rs,q,rfl⟩:=qm a;intro w Fr β vs i;refine enters_of (by grind [Qj]) (fun e=>by grind) ?_;have G:Good Γ ⟨w.heap.size,se w β oc,w,Fr,fn.ntmps,w,Fr,β,[]⟩:=⟨i.g,fun g C=>⟨Γ.lt w i.g g C,i.Nj g C⟩⟩;have D:=AA (nt:=fn.ntmps) i k;refine callsIn_wide.1 (callsIn_of_wp_marks (n:=0) j b trivial ?_);refine j0 (r:=none) I y G (f:=f) ⟨fn,j,rfl⟩ (fun l e=>by cases e) body _ 0 lv.main E z x ?_ _ _ _ w _ h rfl ⟨Fr,β,D,Le.refl _ _ _⟩ fun o st a' w' J H p=>?_
 ·grind [Ql]
 obtain⟨F,B⟩:=k8 J;cases o with
 |exit id=>exact absurd rfl (F id)
 |normal=>exact Ks rfl _ a' w' rfl p fun u A d _=>As q i.rel.bx.1 B u A d
 |ret=>exact Ks rfl _ a' w' rfl p fun u A d _=>As q i.rel.bx.1 B u A d
end
end ya

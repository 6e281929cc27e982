/- Texts of this proof, merged. -/
import Derived.Test.YtglaihdcndcmkaaGreatDoorRc
import Derived.RecoverIn
import Derived.Test.YtglaihdcndcmkaaGreatDoorRows
import Derived.Shelf.Strings.BuilderK
import Derived.Lib.FrozenHead2
import Derived.Lib.OthersKept
import Derived.Lib.Builder
import Derived.Laws.Externs
set_option linter.all false
open Go wa Go.Proofs Go.RowKit Go.Proofs.YtglaihdcndcmkaaGreatDoor
set_option maxHeartbeats 4000000
namespace wa
abbrev EU:=Value×Ha×List Loc
abbrev he:=FuncId->List PV->Ha->List Loc->EU->Prop
abbrev Vg:=Value×List PV×Ha×List Loc
def Th(kl:List Nat)(q:Vg):St:=⟨kl.zip q.2.1,q.2.2.2,[],q.2.2.1⟩
def entry(v:Value):List PanicEntry:=[{v:=v,recovered:=false}]
def Ci(P:Program)(Γ:Ze)(pf:he):Prop:=∀f args bx oc q,pf f args bx oc q->∀w Fr β vs,Nl P Γ w Fr β args vs bx oc->
 Enters P f vs w fun e w'=>e=.panicked (entry q.1)/\∃Fr' β',di P w Fr β oc [] false q.2.1 q.2.2 (.tuple #[]) w' Fr' β'
inductive Rt where
 | op (f:FuncId) (k:Nat)
 | l (r:Rt)
 | r (r:Rt)
 | lp (m:Nat) (r:Rt)
 | rg
def kb(st:St):Ea->Option (FuncId×List PV)
 | .call f args=>some (f,args.map fun x=>(x.ev st.sl).Hb)
 | .callv g args=>match g.ev st.sl with
   | .fb f Oa=>if f=hb then none else some (f,(args.map fun x=>(x.ev st.sl).Hb)++Oa)
   |_=>none
 |_=>none
def Df(pf:he)(kl:List Nat)(st:St)(f:FuncId)(args:List PV)(q:Vg):Prop:=
 q.2.1=kl.map (look st.sl)/\if gc args=true then(∃bx oc,pf f args [] [] (q.1,bx,oc))/\q.2.2=(st.bx,st.ow.filter Ca)else pf f args st.bx (st.ow.filter Ca) (q.1,q.2.2)
def Tf(cf:Callee)(pf:he)(kl:List Nat)(f:FuncId)(o:Qa)(k:Nat)(st:St)(q:Vg)(K:Nat->St->Prop):Prop:=match de st o.g with
 |some true=>(match kb st o.op with
  |some (g,args)=>if g=f then(match k with
   |0=>Df pf kl st f args q
   |k+1=>match stepG cf st o with|some st'=>K k st'|none=>False)
    else match stepG cf st o with|some st'=>K k st'|none=>False
  |none=>match stepG cf st o with|some st'=>K k st'|none=>False)
 |_=>match stepG cf st o with|some st'=>K k st'|none=>False
def Je(cf:Callee)(pf:he)(kl:List Nat)(f:FuncId):List Qa->Nat->St->Vg->Prop
 |[],_,_,_=>False
 |o::r,k,st,q=>Tf cf pf kl f o k st q fun k st'=>Je cf pf kl f r k st' q
def Qd(cf:Callee)(pf:he)(kl:List Nat)(f:FuncId):BT->Nat->St->Vg->Prop
 | .done,_,_,_=>False
 | .one o t,k,st,q=>Tf cf pf kl f o k st q fun k st'=>Qd cf pf kl f t k st' q
 | .two o t r,k,st,q=>(Tf cf pf kl f o k st q fun k st'=>Qd cf pf kl f t k st' q)/\Qd cf pf kl f r k st q
def kg(body:St->Option (Out×St))(pbody:St->Prop)(live:List Nat)(nb:Nat):Nat->St->Prop
 |0,st=>pbody st
 |n+1,st=>match body st with
  |some (.normal,st')=>kg body pbody live nb n (st'.only live nb)
  |_=>False
def Ar(pf:he)(kl:List Nat)(f k:Nat)(live:List Nat)(g:PV)(st:St)(q:Vg):Prop:=match g with
 | .fb h Oa=>h≠hb/\q.2.1=kl.map (look st.sl)/\pf h (.Ma st.bx.length::Oa) (st.bx++[(0,[.lp f k .ready live (live.map (look st.sl))])]) (st.ow.filter Ca) (q.1,q.2.2)
 |_=>False
def mb(cf:Callee)(pf:he)(kl:List Nat)(n:Nat):oa->Rt->St->Vg->Prop
 | .Ld _ [] e,.op f k,st,q=>Je cf pf kl f e k st q
 | .dg _ pre t,.op f k,st,q=>(pre.all fun o=>match o.dst with|some d=>!kl.contains d|none=>true)=true/\match ye cf pre st with
   |some s=>Qd cf pf kl f t k s q
   |none=>False
 | .seq a _,.l r,st,q=>mb cf pf kl n a r st q
 | .seq a b,.r r,st,q=>match pa cf n a st with
   |some (.normal,st')=>mb cf pf kl n b r st' q
   |_=>False
 | .cond c a b,r,st,q=>match c.ev st.sl with
   | .flat (.bool t)=>if t then mb cf pf kl n a r st q else mb cf pf kl n b r st q
   |_=>False
 | .block _ b,r,st,q=>mb cf pf kl n b r st q
 | .loop live b,.lp m r,st,q=>kg (pa cf n b) (fun s=>mb cf pf kl n b r s q) live st.bx.length m (st.only live st.bx.length)
 | .range f k live g,.rg,st,q=>Ar pf kl f k live (g.ev st.sl) st q
 |_,_,_,_=>False
def Fh(code:FuncId->Option Ba)(cf:Callee)(n0:Nat)(plib:he):Nat->he
 |0,_,_,_,_,_=>False
 |n+1,f,args,bx,oc,q=>match code f with
  |none=>f≠hb/\plib f args bx oc q
  |some c=>args.length<=c.nt/\∃b a,mb cf (Fh code cf n0 plib n) [] n0 c.body b {sl:=ag 0 args,ow:=oc,al:=[],bx} a/\q.1=a.1/\q.2.1=trim bx.length [] a.2.2.1/\∀L∈q.2.2,L∈Yg (trim bx.length [] a.2.2.1).length a.2.2.2
def Vp(code:FuncId->Option Ba)(cf:Callee)(n0:Nat)(plib:he):he:=fun f args bx oc q=>∃n,Fh code cf n0 plib n f args bx oc q
section
variable {P:Program} {w w':World} {r:Option Nat} {Fr Fr':Nat→Nat} {β β':List Nat} {T:List Deferred} {base nt:Nat} {M:Nat→Prop} {w0:World} {F0:Nat→Nat} {st st':St} {a a':Act} {cf:Callee} {pf:he} {Γ:Ze} {S:S0}
theorem gQ(sl):∀(kl:List Nat)(i),look (kl.zip (kl.map (look sl))) i=.hd\/look (kl.zip (kl.map (look sl))) i=look sl i
 |[],i=>.inl rfl
 |j::kl,i=>by
  simp only[kc,List.zip_cons_cons,oe];by_cases h:j=i
  ·grind
  ·rw[if_neg h];exact gQ sl kl i
def Rl.AR{kl}{q}{st}{a}{w}(c:q.2.1=kl.map (look st.sl))(d:q.2.2=(st.bx,st.ow.filter Ca))(h:Rl P S st a w):Rl P S (Th kl q) a w:=by
 obtain⟨Fr,β,R,b⟩:=h;refine⟨Fr,β,R.dm (fun i=>?_) (by grind [Th]) (fun L e=>?_) rfl,b⟩
 ·grind [Th,gQ]
 grind [Ca,Th]
def CR(j:Ci P Γ pf){f}{args}{kl}{q}(h:Df pf kl st f args q){vs}
 (R:Rel P S.T S.base S.M S.w0 S.F0 S.nt st a w Fr β) (r:Le S.sw S.sF S.sβ w Fr β) (b:sa w Fr β args vs) (i:Γ.G w) (o:∀g,Γ.D g->g<S.base/\¬S.M g):
 Enters P f vs w fun e w'=>e=.panicked (entry q.1)/\Rl P S (Th kl q) a w':=by
 obtain⟨l,h⟩:=h;split at h
 ·rename_i n
  obtain⟨⟨bx,oc,h⟩,v⟩:=h;refine(j f args [] [] _ h w Fr [] vs ⟨i,Sq args vs n b,jH w Fr,(fun L h=>by cases h),fun g _=>Kn⟩).mono fun e w' h=>?_
  obtain⟨rfl,Fr',β',Q⟩:=h;have u:Below w.heap.size w w':=⟨Q.rel.os,Q.rel.tape,Q.rel.output,Q.rel.ge,fun k l=>(Q.rel.old k l Kn).1⟩;obtain⟨t,c⟩:=R.grow u (fun g i=>(Q.rel.old g i Kn).2);exact⟨rfl,Rl.AR l v ⟨Fr',β,t,r.trans c⟩⟩
 ·have c:∀L,L∈st.ow.filter Ca->L∈st.ow/\Ca L=true:=fun L h=>by grind
  have t:∀g,td w β (st.ow.filter Ca) g->S.base<=g\/S.M g:=fun g i=>R.may g (i.imp id fun⟨L,u,v,y,x⟩=>⟨L,(c L u).1,v,by grind [Zh],x⟩)
  refine(j f args st.bx (st.ow.filter Ca) _ h w Fr β vs ⟨i,b,R.boxes,fun L h=>(c L h).2,fun g z A=>?_⟩).mono fun e w' h=>?_
  ·grind
  obtain⟨rfl,Fr',β',Q⟩:=h;refine⟨rfl,?_⟩;have n:q.2.2.2.filter Ca=q.2.2.2:=Aw.2 Q.cells;have:=oC (S:=S) (dst:=none) (f:=f) (args:=args) Q (st':={st with bx:=q.2.2.1,ow:=q.2.2.2.filter Ca++st.ow.filter (fun L=>!Ca L),al:=st.al.filter fun p=>!Ca p.2}) ja (fun d h=>by cases h) R r (K:=fun a' w'=>Rl P S (Th kl q) a' w') (fun a' w' hr=>by
   refine Rl.AR (st:={st with bx:=q.2.2.1,ow:=q.2.2.2.filter Ca++st.ow.filter (fun L=>!Ca L),al:=st.al.filter fun p=>!Ca p.2}) l ?_ hr
   grind [List.filter_eq_nil_iff])
  exact this
def KT{o}{ali}{c}(b:nn P ali o=some c){f}{args}(ht:kb st c=some (f,args)):Qo P o.op=some c:=by
 have e:∀c,(∃f xs,c=Ea.call f xs)\/(∃g xs,c=.callv g xs)->Ni c=false:=fun c h=>by rcases h with⟨f,xs,rfl⟩|⟨g,xs,rfl⟩<;>rfl
 have i:(∃f xs,c=Ea.call f xs)\/(∃g xs,c=.callv g xs):=by
  unfold kb at ht;split at ht
  ·simp
  ·simp
  ·cases ht
 unfold nn at b;split at b
 ·grind [Ex,Option.map_eq_some_iff]
 ·split at b
  ·rename_i c' a
   cases b;rcases zC a with⟨x,d⟩|⟨x,d⟩|d
   ·rw[d]at a
    obtain⟨y,_,rfl⟩:=qm a
    grind
   ·rw[d]at a
    obtain⟨y,_,rfl⟩:=qm a
    grind
   grind
  ·split at b
   ·rename_i c' a
    cases b;exfalso;unfold mq at a;split at a<;>grind [Option.map_eq_some_iff,Option.bind_eq_some_iff]
   ·split at b
    ·grind
    ·cases b;rcases i with⟨_,_,h⟩|⟨_,_,h⟩<;>cases h
theorem vR(A:Ci P Γ pf)(B:Good Γ S){o}{ali}{c}(x:nn P ali o=some c){f}{args}(ht:kb st c=some (f,args)){kl}{q}(h:Df pf kl st f args q)(ra:f≠hb)(hr:Rl P S st a w){K}{Q}
 (G:∀a' w',Rl P S (Th kl q) a' w'->Q (.panic (entry q.1)) a' w'):o.wpIn (fw r) 0 P a w K Q:=by
 have i:=KT x ht;obtain⟨Fr,β,R,F⟩:=hr;obtain⟨dst,op,ty,n,k,guard⟩:=o;have fin:∀(vs:List Value),sa w Fr β args vs->(execOp a.eval ⟨dst,op,ty,n,k,guard⟩).run P w=(callFunc f vs.toArray).run P w->Oper.wpIn (fw r) 0 P ⟨dst,op,ty,n,k,guard⟩ a w K Q:=fun vs D E=>by
  have l:=CR A h R F D (B.at R) B.Nh;unfold Enters at l;rw[if_neg ra]at l;obtain⟨v,j⟩:=l;have p:(execOp a.eval ⟨dst,op,ty,n,k,guard⟩).run P w=.ok (.enter f vs.toArray) w:=by rw[E,bs v]
  refine⟨fun _ _=>trivial,?_⟩;rw[Oper.semAt_eq _ _ _ fun c x=>by obtain⟨d,u⟩:=Tx x p;cases u];rw[p];refine⟨(fun h=>by cases h),py.2 (j.mono fun e w' h=>?_)⟩
  grind
 cases op with
 |call cl=>
  obtain⟨callee,j,l⟩:=cl;cases callee with
  |invoke r m=>cases i
  |builtin b=>cases i
  |value g=>
   cases g with
   |const v=>cases i
   |global g=>cases i
   |func g=>
    simp only[Qo]at i;split at i
    ·cases i
    obtain⟨xs,p,rfl⟩:=qm i;simp only[kb,Xb,Fp]at ht;obtain⟨rfl,rfl⟩:=ht;refine fin (j.map a.eval).toList (Eu R.sl p) ?_;show(do let d <-resolve a.eval ⟨.value (.func g),j,l⟩ ty;invoke d.target d.args:Sem Next).run P w=_;simp only[resolve,Deferred.ofValue,Act.eval,Qb,Bh,Tb,invoke];congr 2;apply Sg;simp
   |tmp t=>
    obtain⟨xs,p,rfl⟩:=qm i;simp only[kb]at ht;split at ht
    ·rename_i g Oa e1
     split at ht
     ·cases ht
     simp only[Xb,Fp]at ht;obtain⟨rfl,rfl⟩:=ht;have C:=R.sl t;have v:look st.sl t=.fb g Oa:=e1;rw[v]at C;obtain⟨u,z,y⟩:=C;refine fin ((j.map a.eval).toList++u) ((Eu R.sl p).append y) ?_;show(do let d <-resolve a.eval ⟨.value (.tmp t),j,l⟩ ty;invoke d.target d.args:Sem Next).run P w=_;have:a.eval (.tmp t)=.func (.func g) #[] u.toArray:=z;simp only[resolve,this,Deferred.ofValue,Qb,Bh,Tb,invoke];congr 2;simp
    grind
 |_=>cases i
theorem MT{c}{ali}{o}(b:nn P ali o=some c){f}{args}(ht:kb st c=some (f,args)):f≠hb:=by
 have a:=KT b ht;unfold kb at ht;split at ht
 ·cases ht
  unfold Qo at a
  grind [Option.map_eq_some_iff]
 ·grind
 grind
def BR{f}{o}{k}{kl}{q}{K}(h:Tf cf pf kl f o k st q K):(∃args,de st o.g=some true/\kb st o.op=some (f,args)/\Df pf kl st f args q)\/∃k' st',stepG cf st o=some st'/\K k' st':=by
 grind [Tf]
def vM{ops}{ali}{nt}{o}{c}(h:Mh P nt ops ali o=some c):nn P ali o=some c.op/\Cu ops o.guard=some c.g:=by
 grind [Mh,Option.bind_eq_some_iff,Option.map_eq_some_iff]
theorem TS(b:dc P Γ cf)(e:Ci P Γ pf)(i:Good Γ S){ops}{ali}{f}{kl}{q}{Q}{rest}
 (u:∀a' w',Rl P S (Th kl q) a' w'->Q (.panic (entry q.1)) a' w'):∀(l)(n k)(st)(a)(w),
 (∀j c,l[j]?=some c->∃o,ops[k+j]?=some o/\Mh P S.nt ops ali o=some c)->Je cf pf kl f l n st q->Rl P S st a w->wpOpsIn (fw r) 0 P ops Q (List.range' k l.length++rest) a w
 |[],n,k,st,a,w,_,h,hr=>h.elim
 |c::l,n,k,st,a,w,p,h,hr=>by
  obtain⟨o,t,d⟩:=p 0 c rfl;rw[Cj]at t;rw[za,List.range'_succ,ub];unfold wpOpsIn;simp only[t];obtain⟨z,A⟩:=vM d;rcases BR h with⟨args,v,y,C⟩|⟨m,st',hs,x⟩
  ·grind [Yu,vR,MT]
  ·exact MG b i d hs hr fun a' w' g=>TS b e i u l m (k+1) st' a' w' (fun j c' B=>by
    have:=p (j+1) c' ia;rwa[Dp,Nat.add_comm 1 j]) x g
def m8{f}{kl}{q}{g}{cs}{s}{k}:∀(l),Qd cf pf kl f (Qq g cs l) k s q->∀j∈l,(∃s',stepG cf s (Va cs j)=some s'/\∃k',Qd cf pf kl f (g j) k' s' q)\/∃args,de s (Va cs j).g=some true/\kb s (Va cs j).op=some (f,args)/\Df pf kl s f args q:=by
 have one:∀j,Tf cf pf kl f (Va cs j) k s q (fun k st'=>Qd cf pf kl f (g j) k st' q)->(∃s',stepG cf s (Va cs j)=some s'/\∃k',Qd cf pf kl f (g j) k' s' q)\/∃args,de s (Va cs j).g=some true/\kb s (Va cs j).op=some (f,args)/\Df pf kl s f args q:=fun j h=>by
  rcases BR h with h|⟨k',st',hs,a⟩<;>grind
 intro l
 induction l with
 |nil=>simp
 |cons i l c=>
  intro h j a;cases l with
  |nil=>
   obtain rfl:j=i:=ia
   exact one j h
  |cons b l=>
   simp only[Qq,Qd]at h;rcases Wb.1 a with rfl|a
   ·exact one j h.1
   grind
def zcF{s1}{c}(h:∀x∈c.xs,x.ev s1.sl=x.ev st.sl):kb s1 c=kb st c:=by
 unfold kb;cases c<;>try rfl
 case call f args=>
  grind [List.map_congr_left,Ea.xs]
 grind [List.map_congr_left,Ea.xs]
def w_(v:P.follows .mixedOrders=true)(d:dc P Γ cf)(h:Ci P Γ pf)(u:Good Γ S){id}{ops}{q}(b:Fx P S.nt ops false=some q){f}{k}{kl}{x}(p:Je cf pf kl f q.2 k st x)
 (hr:Rl P S st a w) {Q} (t:∀a' w',Rl P S (Th kl x) a' w'->Q (.panic (entry x.1)) a' w'):(Code.region id ops false).wpIn (fw r) 0 P Q a w:=by
 obtain⟨cs,g,b⟩:=qb b;obtain⟨n,i⟩:=pp g;have e:∀(j:Nat)(c:Qa),cs[j]?=some c->∃o,ops[j]?=some o/\Mh P S.nt ops (ops.toList.filterMap Fo) o=some c:=fun j c l=>by
  grind
 simp only[Fa,if_false,Xb]at b;subst b;refine wpIn_region ?_;have:=TS (r:=r) (rest:=[]) d h u (Q:=Q) t cs k 0 st a w (fun j c l=>by rw[sc];exact e j c l) p hr
 grind [List.range_eq_range']
theorem u_(hmZ:P.follows .mixedOrders=true)(B:dc P Γ cf)(hpf:Ci P Γ pf)(hSZ:Good Γ S){id}{ops}{qs}{q}(p:So P qs S.nt ops=some q){stk}(h1Z:ye cf q.1 st=some stk){f}{k}{kl}{x}(h2Z:Qd cf pf kl f q.2 k stk x)
 (F:(q.1.all fun o=>match o.dst with|some d=>!kl.contains d|none=>true)=true) (v:st.al=[]) (hr:Rl P S st a w) {Q} (hQZ:∀a' w',Rl P S (Th kl x) a' w'->Q (.panic (entry x.1)) a' w'):(Code.region id ops true).wpIn (fw r) 0 P Q a w:=by
 obtain⟨cs,u,p⟩:=qb p;obtain⟨cs0,D,O⟩:=qm u;obtain⟨X,U⟩:=pp D;split at p
 case isFalse=>cases p
 rename_i I;cases p;refine wpIn_region_any hmZ ?_;have L:Rl P S st a {w with drawn:=w.drawn+1}:=by
  obtain⟨Fr,β,R,hlZ⟩:=hr;have hbZ:Below w.heap.size w {w with drawn:=w.drawn+1}:=⟨rfl,rfl,rfl,la _,fun _ _=>rfl⟩;obtain⟨R'Z,H⟩:=R.grow hbZ (Fr':=Fr) (fun _ _=>rfl);exact⟨Fr,β,R'Z,hlZ.trans H⟩
 refine qN B hSZ (ali:=ops.toList.filterMap Fo) I (fun j c W=>by
  grind [aG]) v h1Z (TP:=fun t s=>∃k,Qd cf pf kl f t k s x) (Dies:=fun j s=>∃args,de s (Va cs j).g=some true/\kb s (Va cs j).op=some (f,args)/\Df pf kl s f args x)
  (fun g s l h j W=>by obtain⟨k,h⟩:=h;exact m8 l h j W) (fun s a w h _=>by obtain⟨k,h⟩:=h;exact h.elim) ?_ ⟨k,h2Z⟩ L
 rintro j s ⟨args,E,b,J⟩ s1 o a w K M G A C n hr1;have N:∀y∈(Va cs j).op.xs,y.ev s1.sl=y.ev s.sl:=fun y Z=>xI fun i V=>M i (by
  grind [Qa.reads])
 have T:de s1 (Va cs j).g=some true:=by
  rw[<-E];unfold de;cases R:(Va cs j).g with
  |none=>rfl
  |some H=>
   grind [Qa.reads]
 have Y:kb s1 (Va cs j).op=some (f,args):=by rw[zcF N];exact b
 have hp1:Df pf kl s1 f args x:=by
  unfold Df at J⊢;rw[A,C];refine⟨J.1.trans (Fl fun y Z=>(G y fun i V e=>?_).symm),J.2⟩;have:=Dj.1 F (Va cs i) (Ik.2 ⟨i,V,rfl⟩);rw[e]at this;simp[Z]at this
 rcases n with n|⟨y,e3,_⟩|⟨y,z,e1,_,e3,_⟩
 ·obtain⟨H,R⟩:=vM n
  grind [Yu,vR,MT]
 ·rw[e3]at b;cases b
 ·rw[e3]at b;cases b
theorem r8(V:dc P Γ cf)(C:Ci P Γ pf)(J:Good Γ S){f k}{live}{g}{ps}{az b}{y}(hyZ:zb g=some y)(v:rangeAt P f k=some (g,ps,az,b))(W:∃fn,P.funcs[f]?=some fn/\S.nt=fn.ntmps)
 (E:∀l,r=some l->∃rec,S.sw.heap[l]?=some (Obj.loop rec)) {kl} {x} (A:Ar pf kl f k live (y.ev st.sl) st x) (hr:Rl P S st a w) {Q} (I:∀a' w',Rl P S (Th kl x) a' w'->Q (.panic (entry x.1)) a' w'):(Code.rangeFunc g ps az b).wpIn (fw r) 0 P Q a w:=by
 obtain⟨Fr,β,R,L⟩:=hr;unfold Ar at A;split at A
 case h_2=>grind
 rename_i h Oa e1;obtain⟨ra,X,H⟩:=A;have M:=Ub R.sl hyZ;rw[e1]at M;obtain⟨d,hxv,z⟩:=M;refine wpIn_rangeFunc fun fr _=>?_
 obtain⟨l,mk,t,df,k1Z,T,N,k3Z,k4Z⟩:=FN (P:=P) (w:=w) (fr:=fr) (tmps:=a.tmps) (ps:=ps) (az:=az) (b:=b) (r:=r) fun l0Z e=>by
  obtain⟨rec,j⟩:=E l0Z e;exact L.lp _ _ j
 obtain⟨G,c⟩:=R.Sw (Fr':=Zd Fr l 0) (l:=l) (cs:=(0,[.lp f k .ready live (live.map (look st.sl))])) T (fun g h=>Bp (Qf h N)) N (by simp[Zd]) fun c=>.inr ⟨f,k,.ready,live,_,rfl,_,k3Z,by
  grind [Rel.nt],⟨g,v⟩,⟨rfl,rfl⟩,fun i=>by
  have:look (live.zip (live.map (look st.sl))) i=if i∈live then look st.sl i else .hd:=by
   rw[<-wv st.sl live i];congr 1;rw[List.zip_map_right];clear H I
   induction live with
   |nil=>rfl
   |cons j l B=>grind
  rw[this];split
  ·exact(R.sl i).mono c
  ·simp[Rd]⟩
 have U:st.bx.length=β.length:=R.bx.1;have u:Rel P S.T S.base S.M S.w0 S.F0 S.nt {st with bx:=st.bx++[(0,[.lp f k .ready live (live.map (look st.sl))])]} {a with defers:=mk++a.defers} t (Zd Fr l 0) (β++[l]):=by
  rcases k4Z with rfl|⟨D,rfl,B,F⟩
  ·exact G
  ·refine G.TI (Ob R.ge B) F fun j e hmZ=>?_
   obtain⟨O,Z,d2Z,d3Z⟩:=R.df
   grind [nz]
 have n:sa t (Zd Fr l 0) (β++[l]) (.Ma st.bx.length::Oa) (.func (.yield l) #[] #[]::d):=by
  simp only[sa];exact⟨_,_,rfl,by grind [Rd],sa.mono c _ _ z⟩
 have Y:gc (.Ma st.bx.length::Oa)=false:=rfl;have p:=CR C (S:={S with sw:=t,sF:=Zd Fr l 0,sβ:=β++[l]}) (f:=h) (args:=.Ma st.bx.length::Oa) (q:=x) (by exact⟨X,H⟩) u (Le.refl _ _ _) n (J.at u) J.Nh;unfold Enters at p;rw[if_neg ra]at p;obtain⟨K,o⟩:=p;refine⟨l,mk,t,{target:=.fn (.func h) d.toArray,args:=#[.func (.yield l) #[] #[]]},t,h,(.func (.yield l) #[] #[]::d).toArray,t,k1Z,?_,fun _ _=>trivial,?_,(fun h=>by cases h),?_⟩
 ·grind [resolve,Deferred.ofValue,Sem.run_pure,Act.eval]
 ·grind [bs,invoke]
 ·refine py.2 (o.mono fun e w3Z Z=>?_)
  obtain⟨rfl,j,F,O,B⟩:=Z;exact I _ _ ⟨j,F,O,(L.trans c).trans B⟩
theorem DR(hmZ:P.follows .mixedOrders=true)(H:dc P Γ cf)(W:Ci P Γ pf)(hSZ:Good Γ S){n}{kl}{qs}{f}(M:∃fn,P.funcs[f]?=some fn/\S.nt=fn.ntmps)(O:∀l,r=some l->∃rec,S.sw.heap[l]?=some (Obj.loop rec)):
 ∀(code)(C)(lv)(c)(A),Td P qs f S.nt C lv code=some (c,A)->(∀j q,(Lb code)[j]?=some q->rangeAt P f (C+j)=some q)->∀(o)(st)(x)(a)(w)(Q),
 mb cf pf kl n c o st x->st.al=[]->Rl P S st a w->(∀a' w',Rl P S (Th kl x) a' w'->Q (.panic (entry x.1)) a' w')->code.wpIn (fw r) 0 P Q a w:=by
 have stop:∀{o:Rt}{st:St}{x:Vg},mb cf pf kl n zt o st x->False:=fun{o st x} h=>by
  grind [zt,mb]
 intro code
 induction code with
 |skip=>
  intro C lv c A d i o st x a w Q v _ hr D;cases d;cases o<;>exact v.elim
 |region id ops E=>
  intro C lv c A d i o st x a w Q v u hr D;cases lv with
  |nil=>grind [Td]
  |cons l lv=>
   simp only[Td]at d;split at d
   case h_2=>grind
   rename_i N G;cases d;unfold xC at G;have L:∀q:List Qa×BT,So P qs S.nt ops=some q->E=true->oa.dg l q.1 q.2=c->(Code.region id ops E).wpIn (fw r) 0 P Q a w:=fun q K U d=>by
    cases d;cases o<;>grind [mb,u_]
   split at G
   ·grind [Option.map_eq_some_iff]
   split at G
   ·rename_i q K
    cases G;obtain⟨pre,I⟩:=q;cases o with
    |op g k=>
     cases pre with
     |cons p pre=>exact v.elim
     |nil=>
      cases E with
      |false=>exact w_ hmZ H W hSZ K v hr D
      |true=>
       grind [Fx,Option.bind_eq_some_iff,pp,Option.map_eq_some_iff,List.length_nil]
    |_=>cases pre<;>exact v.elim
   grind [Option.map_eq_some_iff]
 |seq y z L N=>
  intro C lv c A d i o st x a w Q v u hr D;obtain⟨⟨c1,F⟩,J,d⟩:=qb d;obtain⟨⟨c2,l2Z⟩,h2Z,d⟩:=qm d;cases d;have E:∀j q,(Lb y)[j]?=some q->rangeAt P f (C+j)=some q:=fun j q hjZ=>i j q (by grind [Lb])
  have G:∀j q,(Lb z)[j]?=some q->rangeAt P f (C+(Lb y).length+j)=some q:=fun j q hjZ=>by
   have:=i ((Lb y).length+j) q (by simp only[Lb];rw[He aa];simpa using hjZ)
   grind
  cases o with
  |l o=>
   refine wpIn_seq (L C lv c1 F J E o st x a w _ v u hr fun a' w' B=>?_);exact D _ _ B
  |r o=>
   simp only[mb]at v;split at v
   ·rename_i s1 Z
    have I:=hm c1 st _ s1 Z u;refine wpIn_seq (Uo hmZ H hSZ M O y C lv c1 F J E st s1 .normal a w _ Z u hr fun a' w' B=>?_);exact N _ F c2 l2Z h2Z G o s1 x a' w' Q v I B D
   ·exact v.elim
  |_=>exact v.elim
 |cond y T N L I=>
  intro C lv c A d i o st x a w Q v u hr D;obtain⟨z,hyZ,d⟩:=qb d;obtain⟨⟨c1,F⟩,J,d⟩:=qb d;obtain⟨⟨c2,l2Z⟩,h2Z,d⟩:=qm d;cases d;simp only[mb]at v;split at v
  ·rename_i t e1
   have G:=hr;obtain⟨Fr,β,R,hlZ⟩:=hr;have E:=Ub R.sl hyZ;rw[e1]at E;obtain⟨E,_⟩:=zc E;refine wpIn_cond E ?_;cases t with
   |true=>
    grind [Lb]
   |false=>
    exact I _ F c2 l2Z h2Z (fun j q hjZ=>by
     have:=i ((Lb T).length+j) q (by simp only[Lb];rw[He aa];simpa using hjZ)
     grind) o st x a w Q v u G D
  ·exact v.elim
 |block id b X=>
  intro C lv c A d i o st x a w Q v u hr D;obtain⟨⟨c1,F⟩,J,d⟩:=qm d;cases d;refine wpIn_block (X C lv c1 F J i o st x a w _ v u hr fun a' w' B=>?_);exact D _ _ B
 |loop b X=>
  intro C lv c A d i o st x a w Q v u hr D;cases lv with
  |nil=>grind [Td]
  |cons l lv=>
   obtain⟨⟨c1,F⟩,J,d⟩:=qm d;cases d;cases o with
   |lp m o=>
    have V:S.sβ.length<=st.bx.length:=by
     obtain⟨Fr,β,R,hlZ⟩:=hr;rw[R.bx.1];exact HF hlZ
    intro Y k cs U G I;have key:∀(m:Nat)(s:St)(a:Act)(w:World),kg (pa cf n c1) (fun s=>mb cf pf kl n c1 o s x) l st.bx.length m s->s.al=[]->Rl P S s a w->∃e a' w',Q e a' w'/\ArrivesIn (Machine.fenced P (fw r)) P (lone (Y.atR a (.code b::.inLoop b::k)) cs w) Y k cs e a' w':=by
     intro m
     induction m with
     |zero=>
      intro s a w h u hr;obtain⟨e,T,w1Z,K,E⟩:=X C lv c1 F J i o s x a w (fun e a' w'=>e=.panic (entry x.1)/\Rl P S (Th kl x) a' w') h u hr (fun a' w' B=>⟨rfl,B⟩) Y (.inLoop b::k) cs U G I;obtain⟨rfl,N⟩:=K;exact⟨_,T,w1Z,D T w1Z N,.pass (x:=.inLoop b) rfl (fun _ _=>.inl da) E⟩
     |succ m ihm=>
      intro s a w h u hr;simp only[kg]at h;split at h
      ·rename_i s1 Z
       obtain⟨e,T,w1Z,K,E⟩:=Uo hmZ H hSZ M O b C lv c1 F J i s s1 .normal a w (fun e a' w'=>e=.normal/\Rl P S s1 a' w') Z u hr (fun a' w' B=>⟨rfl,B⟩) Y (.inLoop b::k) cs U G I;obtain⟨rfl,N⟩:=K;obtain⟨e2,a2Z,w2Z,hq2,L⟩:=ihm _ T w1Z h rfl (N.only l V);exact⟨e2,a2Z,w2Z,hq2,.of_steps (StepsIn.trans E (.one (fenced_calm G I rfl) stepR_inLoop)) L⟩
      grind
    obtain⟨e,a',w',K,E⟩:=key m _ a w v rfl (hr.only l V);exact⟨e,a',w',K,.of_steps (.one (fenced_calm G I rfl) stepR_loop) E⟩
   |_=>exact v.elim
 |exit id=>
  intro C lv c A d i o st x a w Q v _ hr D;cases lv with
  |nil=>grind [Td]
  |cons l lv=>cases d;cases o<;>exact v.elim
 |ret=>
  intro C lv c A d i o st x a w Q v _ hr D;cases lv with
  |nil=>grind [Td]
  |cons l lv=>cases d;cases o<;>exact v.elim
 |rangeFunc g ps az b _ _=>
  intro C lv c A d i o st x a w Q v u hr D;cases lv with
  |nil=>grind [Td]
  |cons l lv=>
   obtain⟨y,hyZ,d⟩:=qm d;cases d;cases o with
   |rg=>exact r8 H W hSZ hyZ (i 0 _ rfl) M O v hr D
   |_=>exact v.elim
 |scope b X=>
  intro C lv c A d i o st x a w Q v u hr D;exact qU (X C lv c A d i o st x a w _ v u hr fun a' w' B=>⟨D a' w' B,fun l=>by simp⟩)
 |label l=>
  intro C lv c A d i o st x a w Q v _ hr D;cases d;cases o<;>exact v.elim
 |goto l=>grind [Td]
 |refuse s=>grind [Td]
end
section
variable {cf:Callee} {pf pf':he}
theorem Df.mono(h:∀f args bx oc q,pf f args bx oc q->pf' f args bx oc q){st}{f}{args}{kl}{q}(k:Df pf kl st f args q):Df pf' kl st f args q:=by
 grind [Df]
theorem Tf.mono(h:∀f args bx oc q,pf f args bx oc q->pf' f args bx oc q){f}{o}{k}{st}{kl}{q}{K K'}(c:∀k s,K k s->K' k s)(a:Tf cf pf kl f o k st q K):Tf cf pf' kl f o k st q K':=by
 unfold Tf at a⊢;split at a
 ·split at a
  ·split at a
   ·rename_i b
    rw[if_pos b];split at a
    ·exact a.mono h
    grind
   grind
  grind
 grind
theorem Je.mono(h:∀f args bx oc q,pf f args bx oc q->pf' f args bx oc q){f}{kl}{q}:∀(l)(k)(st),Je cf pf kl f l k st q->Je cf pf' kl f l k st q
 |[],_,_,a=>a
 |o::r,k,st,a=>Tf.mono h (fun k s=>Je.mono h r k s) a
theorem Qd.mono(h:∀f args bx oc q,pf f args bx oc q->pf' f args bx oc q){f}{kl}{q}:∀(t)(k)(st),Qd cf pf kl f t k st q->Qd cf pf' kl f t k st q
 | .done,_,_,a=>a
 | .one o t,k,st,a=>Tf.mono h (fun k s=>Qd.mono h t k s) a
 | .two o t r,k,st,a=>⟨Tf.mono h (fun k s=>Qd.mono h t k s) a.1,Qd.mono h r k st a.2⟩
theorem kg.mono{body}{p a}(h:∀s,p s->a s){live}{nb}:∀(n)(st),kg body p live nb n st->kg body a live nb n st
 |0,st,k=>h st k
 |n+1,st,k=>by
  unfold kg at k⊢;split at k
  ·exact kg.mono h n _ k
  omega
theorem mb.mono(h:∀f args bx oc q,pf f args bx oc q->pf' f args bx oc q){n}{kl}{q}:∀(c)(d)(st),mb cf pf kl n c d st q->mb cf pf' kl n c d st q:=by
 intro c
 induction c with
 |Ld live pre o=>
  intro d st k;cases d with
  |op f i=>cases pre with
   |nil=>exact Je.mono h _ _ _ k
   |cons p pre=>exact k.elim
  |_=>cases pre<;>exact k.elim
 |dg live pre t=>
  intro d st k;cases d<;>grind [mb,Qd.mono]
 |seq a b j l=>
  intro d st k;cases d<;>grind [mb]
 |cond c a b j l=>
  grind [mb]
 |block id b e=>intro d st k;exact e d st k
 |loop live b e=>
  intro d st k;cases d with
  |lp m d=>exact kg.mono (fun s=>e d s) _ _ k
  |_=>exact k.elim
 |range f i live g=>
  intro d st k;cases d with
  |rg=>
   simp only[mb]at k⊢;unfold Ar at k⊢
   grind
  |_=>exact k.elim
 |skip=>intro d st k;cases d<;>exact k.elim
 |exit id live=>intro d st k;cases d<;>exact k.elim
 |ret live=>intro d st k;cases d<;>exact k.elim
def mb.depth{PF:Nat->he}(x:∀n m,n<=m->∀f args bx oc q,PF n f args bx oc q->PF m f args bx oc q){n}{kl}{q}:∀(c)(d)(st),mb cf (fun f args bx oc q=>∃m,PF m f args bx oc q) kl n c d st q->∃m,mb cf (PF m) kl n c d st q:=by
 have call:∀{st f args},Df (fun f args bx oc q=>∃m,PF m f args bx oc q) kl st f args q->∃m,Df (PF m) kl st f args q:=fun{st f args} k=>by
  grind [Df]
 have step:∀{f o k st}{K:Nat->St->Prop}{K':Nat->Nat->St->Prop},(∀k s,K k s->∃m,K' m k s)->Tf cf (fun f args bx oc q=>∃m,PF m f args bx oc q) kl f o k st q K->∃m,Tf cf (PF m) kl f o k st q (K' m):=fun{f o k st K K'} E u=>by
  unfold Tf at u⊢;split at u
  ·split at u
   ·split at u
    ·split at u<;>grind
    grind
   grind
  grind
 have ops:∀(f:FuncId)(l:List Qa)(k:Nat)(st:St),Je cf (fun f args bx oc q=>∃m,PF m f args bx oc q) kl f l k st q->∃m,Je cf (PF m) kl f l k st q:=by
  intro f l
  induction l with
  |nil=>intro k st h;exact h.elim
  |cons o r e=>intro k st h;exact step (K':=fun m k s=>Je cf (PF m) kl f r k s q) (fun k s h=>e k s h) h
 have B:∀(f:FuncId)(t:BT)(k:Nat)(st:St),Qd cf (fun f args bx oc q=>∃m,PF m f args bx oc q) kl f t k st q->∃m,Qd cf (PF m) kl f t k st q:=by
  intro f t
  induction t with
  |done=>intro k st h;exact h.elim
  |one o t e=>intro k st h;exact step (K':=fun m k s=>Qd cf (PF m) kl f t k s q) (fun k s h=>e k s h) h
  |two o t r v j=>
   intro k st h;obtain⟨w,C⟩:=step (K':=fun m k s=>Qd cf (PF m) kl f t k s q) (fun k s h=>v k s h) h.1;obtain⟨A,D⟩:=j k st h.2;exact⟨max w A,Tf.mono (x w _ (zi _ _)) (fun k s=>Qd.mono (x w _ (zi _ _)) t k s) C,Qd.mono (x A _ (Jj _ _)) r k st D⟩
 intro c
 induction c with
 |Ld live pre j=>
  intro d st k;cases d with
  |op f i=>cases pre with
   |nil=>exact ops _ _ _ _ k
   |cons p pre=>exact k.elim
  |_=>cases pre<;>exact k.elim
 |dg live pre t=>
  intro d st k;cases d<;>grind [mb]
 |seq a b y z=>
  intro d st k;cases d<;>grind [mb]
 |cond c a b y z=>
  grind [mb]
 |block id b e=>intro d st k;exact e d st k
 |loop live b e=>
  intro d st k;cases d with
  |lp m d=>
   simp only[mb]at k⊢;obtain⟨w,v⟩:∃w,st.only live st.bx.length=w:=⟨_,rfl⟩;rw[v]at k⊢;clear v
   induction m generalizing w with
   |zero=>exact e d w k
   |succ m A=>
    unfold kg at k;split at k
    ·obtain⟨j,C⟩:=A _ k
     exact⟨j,by grind [kg]⟩
    grind
  |_=>exact k.elim
 |range f i live g=>
  intro d st k;cases d with
  |rg=>
   simp only[mb]at k⊢;unfold Ar at k⊢;split at k<;>grind
  |_=>exact k.elim
 |skip=>intro d st k;cases d<;>exact k.elim
 |exit id live=>intro d st k;cases d<;>exact k.elim
 |ret live=>intro d st k;cases d<;>exact k.elim
variable {code:FuncId→Option Ba} {n0:Nat} {plib:he}
theorem Fh.succ:∀(n)(f)(args)(bx)(oc)(q),Fh code cf n0 plib n f args bx oc q->Fh code cf n0 plib (n+1) f args bx oc q
 |0,_,_,_,_,_,h=>h.elim
 |n+1,f,args,bx,oc,q,h=>by
  unfold Fh at h⊢;split
  ·grind
  ·rename_i c e
   rw[e]at h;obtain⟨a,i,g,b,d⟩:=h;exact⟨a,i,g,mb.mono (Fh.succ n) _ _ _ b,d⟩
def Fh.le{n m}(h:n<=m):∀(f)(args)(bx)(oc)(q),Fh code cf n0 plib n f args bx oc q->Fh code cf n0 plib m f args bx oc q:=by
 induction h<;>grind [succ]
def p8{f}{c}(e:code f=some c){args}{bx}{oc}(g:args.length<=c.nt)(b){a}(h:mb cf (Vp code cf n0 plib) [] n0 c.body b {sl:=ag 0 args,ow:=oc,al:=[],bx:=bx} a){O}(d:∀L∈O,L∈Yg (trim bx.length [] a.2.2.1).length a.2.2.2):
 Vp code cf n0 plib f args bx oc (a.1,trim bx.length [] a.2.2.1,O):=by
 obtain⟨m,i⟩:=mb.depth (PF:=Fh code cf n0 plib) (fun n m h=>Fh.le h) _ _ _ h;exact⟨m+1,by grind [Fh]⟩
def o8{f}(a:code f=none)(b:f≠hb){args}{bx}{oc}{q}(h:plib f args bx oc q):Vp code cf n0 plib f args bx oc q:=⟨1,by grind [Fh]⟩
end
section
variable {P:Program} {Γ:Ze} {cf:Callee}
def l8(V:P.follows .mixedOrders=true)(Z:P.funcs[hb]?=none){code}(d:∀f c,code f=some c->∃lv,Uj P lv f=some c)(z:dc P Γ cf){n0}{plib}(j:Ci P Γ plib):∀n,Ci P Γ (Fh code cf n0 plib n):=by
 intro n
 induction n with
 |zero=>intro f args bx oc q h;exact h.elim
 |succ n ihZ=>
  intro f args bx oc q h;unfold Fh at h;split at h
  ·exact j f args bx oc q h.2
  ·rename_i c k
   obtain⟨p,rtZ,x,A,W⟩:=h;obtain⟨v,qb,qoZ⟩:=q;obtain⟨rfl,rfl,S⟩:=W;obtain⟨lv,a⟩:=d f c k;unfold Uj at a;split at a
   case h_2=>cases a
   rename_i fn o;split at a
   case h_2=>cases a
   rename_i body b;split at a
   case isFalse=>cases a
   obtain⟨⟨Q,F⟩,y,a⟩:=qb a;obtain⟨rg,X,a⟩:=qb a;obtain⟨rs,Y,rfl⟩:=qm a;intro w Fr β vs t;refine enters_of (by grind [ij]) (fun e=>by grind) ?_;have T:Good Γ ⟨w.heap.size,td w β oc,w,Fr,fn.ntmps,w,Fr,β,[]⟩:=⟨t.g,fun g H=>⟨Γ.lt w t.g g H,t.Nh g H⟩⟩;have M:=Xv (nt:=fn.ntmps) t p;refine callsIn_wide.1 (callsIn_of_wp_marks (n:=0) o b trivial ?_);refine DR (r:=none) V z ihZ T (f:=f) ⟨fn,o,rfl⟩ (fun l e=>by cases e) body 0 lv.main Q F y ?_ rtZ _ x _ w _ A rfl ⟨Fr,β,M,Le.refl _ _ _⟩ fun a' w' u=>?_
   ·grind [rangeAt]
   ·have D:=u
    obtain⟨Fr',β',K,U⟩:=D;obtain⟨I,d1Z,G,d3Z⟩:=K.df;show LeavesInM _ _ _ _ _ _ a'.defers _ _;rw[G];refine tv da I a' w' G u fun a2Z w2Z E _ _=>?_
    unfold LeavesInM LeavesIn;obtain⟨J,β2Z,N,B⟩:=E;have O:=N.dm (st':=Th [] (x.1,x.2.1,x.2.2.1,qoZ)) (fun i=>.inl ja) rfl (fun L R=>⟨(Hc.1 (S L R)).1,fun i e=>rfl⟩) rfl;obtain⟨β3Z,C⟩:=Nz (vs2:=[]) (v0:=.tuple #[]) (os:=false) (bx:=bx) t.rel.bx.1 O.bare B (by simp[Nc,Rd,sa]) (fun h=>by cases h) rfl rfl
    grind [Yg,List.filter_eq_self,Th]
def q8(g:P.follows .mixedOrders=true)(e:P.funcs[hb]?=none){code}(a:∀f c,code f=some c->∃lv,Uj P lv f=some c)(d:dc P Γ cf){n0}{plib}(b:Ci P Γ plib):Ci P Γ (Vp code cf n0 plib):=fun f args bx oc q h=>by
 obtain⟨n,i⟩:=h;exact l8 g e a d b n f args bx oc q i
end
structure Vm where
 nt:Nat
 yb:List (Sum Nat (Nat × Bool × Nat))
 pre:oa
 d:Nat
 g:FuncId
 Oa:List X
 body:oa
def Pr(P:Program)(qs:List FuncId)(c e:List (List Nat))(f:FuncId):Option Vm:=match P.funcs[f]? with
 |some fn=>match fn.body with
  |some (.seq a (.seq (.region _ ops false) b))=>(match ops.toList with
   |[⟨some d,.makeFunc (.func g) first Oa,_,_,_,none⟩,⟨none,.defer ⟨.value (.tmp h),args,_⟩,_,_,_,none⟩]=>
    if fn.name != "runtime.NumGoroutine"/\Lb a=[]/\Lb b=[]/\d=h/\first.size=0/\args=#[]/\d<fn.ntmps/\ij P g=true then
     (Qr Oa).bind fun cs=>(Td P qs f fn.ntmps 0 c a).bind fun p=>(Td P qs f fn.ntmps 0 e b).bind fun q=>(fn.results.toList.mapM (cm P)).map fun rs=>⟨fn.ntmps,rs,p.1,d,g,cs,q.1⟩
    else none
   |_=>none)
  |_=>none
 |none=>none
def Vm.mid(D:Vm)(s:St):St:=s.put D.d (.fb D.g (D.Oa.map (·.ev s.sl)))
def ns(yb:List (Sum Nat (Nat×Bool×Nat)))(n:Nat)(st:St):Option Cg:=(yb.mapM (Oi st)).map fun vs=>(vs,Qn yb st.ow,trim n vs st.bx,Yg (trim n vs st.bx).length st.ow)
def FI(cf:Callee)(n:Nat)(D:Vm)(args:List PV)(bx:Ha)(oc:List Loc)(r:Cg):Prop:=
 args.length<=D.nt/\∃o s1,pa cf n D.pre {sl:=ag 0 args,ow:=oc,al:=[],bx}=some (o,s1)/\
  match o with
  | .exit _=>False
  | .ret=>ns D.yb bx.length s1=some r
  | .normal=>∃o st,pa cf n D.body (D.mid s1)=some (o,st)/\(∀i,o≠.exit i)/\ns D.yb bx.length st=some r
def MI(cf:Callee)(pf:he)(n:Nat)(a:Value->List PV->Ha->Option Ha)(kl:List Nat)(D:Vm)(args:List PV)(bx:Ha)(oc:List Loc)(r:Cg):Prop:=
 args.length<=D.nt/\∃s1 b q bx',pa cf n D.pre {sl:=ag 0 args,ow:=oc,al:=[],bx}=some (.normal,s1)/\mb cf pf kl n D.body b (D.mid s1) q/\
  a q.1 (D.Oa.map (·.ev s1.sl)) q.2.2.1=some bx'/\ns D.yb bx.length ⟨kl.zip q.2.1,[],[],bx'⟩=some r
def LI(P:Program)(g n:Nat):Prop:=∀(a:List Value)(w:World),a.length=n->CallsDIn Fence.wide 0 P g a.toArray .returning w fun e b w'=>(∃v,e=.returned v)/\b=.returning/\w'=w
def zI(P:Program)(g:FuncId)(c:Value->List PV->Ha->Option Ha):Prop:=∀(v:Value)(Oa:List PV)(st:St)(bx':Ha),c v Oa st.bx=some bx'->
 ∀(T:List Deferred)(base:Nat)(M:Nat->Prop)(w0:World)(F0:Nat->Nat)(nt:Nat)(a:Act)(w:World)(Fr:Nat->Nat)(β:List Nat)(b:List Value),Rel P T base M w0 F0 nt st a w Fr β->sa w Fr β Oa b->
  CallsDIn Fence.wide 0 P g b.toArray (.panicking (entry v)) w fun e d w'=>(∃x,e=.returned x)/\settle d=.returning/\∃Fr',Rel P T base M w0 F0 nt ⟨st.sl,[],[],bx'⟩ a w' Fr' β/\Le w Fr β w' Fr' β
section
variable {P:Program} {w w':World} {Fr Fr':Nat→Nat} {β β':List Nat} {T:List Deferred} {base nt:Nat} {M:Nat→Prop} {w0:World} {F0:Nat→Nat} {st st':St} {a a':Act} {cf:Callee} {Γ:Ze} {S:S0}
def Up(st:St)(a:Act)(w:World)(β:List Nat)(g:Nat):Prop:=g∈β\/∃L∈st.ow,∃v,Ga a w β L=some v/\v.ownBlock=some g
def Rel.qS(R:Rel P T base M w0 F0 nt st a w Fr β)(c):Rel P c w.heap.size (Up st a w β) w Fr nt st {a with defers:=c} w Fr β:=by
 have n:∀L,Ga {a with defers:=c} w β L=Ga a w β L:=fun L=>by rfl
 exact⟨R.sl,R.nt,⟨[],List.nodup_nil,rfl,fun D h=>by cases h⟩,R.bx,R.nd,fun L b=>by exact R.own L b,fun L b e d ra v l g=>by exact R.sep L b e d ra v l g,fun L b v g=>by exact R.out L b v g,fun q j=>by exact R.al q j,
  fun g i=>.inr (i.imp id fun⟨L,b,v,o,k⟩=>⟨L,b,v,ia,k⟩),fun _ _ _=>⟨rfl,rfl⟩,la _,rfl,rfl,rfl⟩
def Rel.back{z r}{j}{k}{n}{l}{i}{d}(R:Rel P T base M w0 F0 nt st a w Fr β)(c:Rel P z w.heap.size (Up st a w β) w Fr j k n l i d){o}(A:Marks r base l o):
 Rel P r base M w0 F0 j k {n with defers:=o} l i d:=by
 have F:∀L,Ga {n with defers:=o} l d L=Ga n l d L:=fun L=>by rfl
 exact⟨c.sl,c.nt,A,c.bx,c.nd,fun L e=>by exact c.own L e,fun L e y p ra v E g=>by exact c.sep L e y p ra v E g,fun L e v g=>by exact c.out L e v g,fun q C=>by exact c.al q C,
  fun g B=>(c.may g (B.imp id fun⟨L,e,v,D,x⟩=>⟨L,e,v,ia,x⟩)).elim (fun h=>.inl (Ob R.ge h)) (fun h=>R.may g h),
  fun b u t=>by
   obtain⟨D,x⟩:=c.old b (Qf u R.ge) fun h=>(R.may b h).elim (fun h=>by omega) t
   obtain⟨G,H⟩:=R.old b u t
   grind,
  Ob R.ge c.ge,c.os.trans R.os,c.tape.trans R.tape,c.output.trans R.output⟩
def Rel.marks{x}{i}{j}{y}{r}{d}{k}(R:Rel P T base M w0 F0 nt st a w Fr β)(v:Rel P x w.heap.size (Up st a w β) w Fr i j y r d k):Marks T base r a.defers:=by
 obtain⟨t,B,C,l⟩:=R.df;refine⟨t,B,C,fun D o=>⟨(l D o).1,?_⟩⟩;have b:=(l D o).2;rw[(v.old D (xg.1 b).1 fun g=>?_).1]
 ·exact b
 ·rcases g with g|⟨L,E,u,F,c⟩
  ·obtain⟨z,h,q⟩:=R.bx.at g
   grind
  ·obtain⟨J,p,h,_,n,cs,_,q⟩:=R.own L E
   rw[F]at h;cases h;rcases q with rfl|⟨G,z,A,e,I,rfl,H,_⟩
   ·cases c
   ·cases c<;>grind
def kN(hmZ:P.follows .mixedOrders=true)(hyn:P.funcs[hb]?=none)(Z:dc P Γ cf){n}{qs}{I J}{f}{D}(h:Pr P qs I J f=some D){args}{bx}{oc}(E:args.length<=D.nt)
 {vs} (O:Nl P Γ w Fr β args vs bx oc) {s1} (h1Z:pa cf n D.pre {sl:=ag 0 args,ow:=oc,al:=[],bx}=some (.normal,s1)) {Q}
 (t:∀(fn)(b)(lv'),ij P D.g=true->fn.ntmps=D.nt->(∃fn,P.funcs[f]?=some fn/\D.nt=fn.ntmps)->Td P qs f D.nt 0 J b=some (D.body,lv')->Lb b=[]->fn.results.toList.mapM (cm P)=some D.yb->∀(M)(L)(q)(z)(i),
   Rel P [] w.heap.size (td w β oc) w Fr D.nt (D.mid s1) M L q z->Le w Fr β L q z->sa L q z (D.Oa.map (·.ev s1.sl)) i->(D.mid s1).al=[]->
   b.wpIn (fw none) 0 P (bodyPostM Fence.wide 0 P fn Q) {M with defers:={target:=.fn (.func D.g) i.toArray,args:=#[]}::M.defers} L):Enters P f vs w Q:=by
 unfold Pr at h;split at h
 case h_2=>cases h
 rename_i fn v;split at h
 case h_2=>cases h
 rename_i a id ops b Y;split at h
 case h_2=>cases h
 rename_i d g first Oa ty1 K U d'Z V j y p A F
 split at h
 case isFalse=>cases h
 rename_i u;obtain⟨hname,hra,hrb,rfl,k,rfl,hdn,C⟩:=u;obtain⟨cs,hcs,h⟩:=qb h;obtain⟨⟨pcZ,lva⟩,hpc,h⟩:=qb h;obtain⟨⟨bcZ,lvb⟩,X,h⟩:=qb h;obtain⟨rs,hrs,rfl⟩:=qm h;refine enters_of (by grind [ij]) (fun e=>by grind) ?_;have hSZ:Good Γ ⟨w.heap.size,td w β oc,w,Fr,fn.ntmps,w,Fr,β,[]⟩:=⟨O.g,fun g hgZ=>⟨Γ.lt w O.g g hgZ,O.Nh g hgZ⟩⟩;have R0Z:=Xv (nt:=fn.ntmps) O E;refine callsIn_wide.1 (callsIn_of_wp_marks (n:=0) v Y trivial ?_);refine wpIn_seq (Uo (r:=none) hmZ Z hSZ (f:=f) ⟨fn,v,rfl⟩ (fun l e=>by cases e) a 0 I pcZ lva hpc (by rw[hra];simp) _ s1 .normal _ w _ h1Z rfl ⟨Fr,β,R0Z,Le.refl _ _ _⟩ fun M L hr1=>?_);have B:=hm pcZ _ _ s1 h1Z rfl;have x:ops=#[⟨some d,.makeFunc (.func g) first Oa,ty1,K,U,none⟩,⟨none,.defer ⟨.value (.tmp d),#[],j⟩,y,p,A,none⟩]:=by
  apply Sg;exact F
 subst x;refine wpIn_seq (wpIn_region ?_);have H:mg P (.makeFunc (.func g) first Oa)=some (.clos g cs):=by
  simp only[mg,k,if_true,hcs,kd]
 refine bT (cf:=cf) (S:=⟨w.heap.size,td w β oc,w,Fr,fn.ntmps,w,Fr,β,[]⟩) (st':=s1.put d (.fb g (cs.map (·.ev s1.sl)))) (c:=.clos g cs) H rfl (fun d'Z e=>by grind) hr1 fun N R hr2=>?_
 unfold wpOpsIn;simp only[List.getElem?_toArray,List.getElem?_cons_zero,kr,Region.wanted,if_true];obtain⟨T,β2Z,R2Z,hl2⟩:=hr2;have o:=R2Z.sl d;have W:look (s1.put d (.fb g (cs.map (·.ev s1.sl)))).sl d=.fb g (cs.map (·.ev s1.sl)):=by simp[St.put,oe]
 rw[W]at o;obtain⟨i,hcv,hcr⟩:=o;refine⟨fun _ _=>trivial,?_⟩;have G:((Oper.semAt Fence.wide.round N.eval ⟨none,.defer ⟨.value (.tmp d),#[],j⟩,y,p,A,none⟩).run P R)=.ok (.defer {target:=.fn (.func g) i.toArray,args:=#[]}) R:=by
  rw[show Fence.wide.round=none from rfl,Oper.semAt_none];show(do let ddZ <-resolve N.eval ⟨.value (.tmp d),#[],j⟩ y;pure (Next.defer ddZ):Sem Next).run P R=_;have:N.eval (.tmp d)=.func (.func g) #[] i.toArray:=hcv;simp only[resolve,this,Deferred.ofValue,Qb,Bh,Tb];simp
 rw[G];exact t fn b lvb C rfl ⟨fn,v,rfl⟩ X hrb hrs N R T β2Z i R2Z hl2 hcr (by simp[Vm.mid,St.put,B,Jb])
def jN{args}{vs}{bx}{oc}(A:Nl P Γ w Fr β args vs bx oc){fn}{yb}(q:fn.results.toList.mapM (cm P)=some yb){i}{h}{g}{a}{b}
 (t:Rel P [] w.heap.size (td w β oc) w Fr fn.ntmps i h g a b) (n:Le w Fr β g a b) {y} {j} {l} {k} {c} {d} (u:Rel P y g.heap.size (Up i h g b) g a fn.ntmps j l k c d) (o:Le g a b k c d)
 {r} (z:ns yb bx.length j=some r):LeavesInM Fence.wide 0 P fn l.tmps (fun e w'=>∃v Fr' β',e=.returned v/\di P w Fr β oc r.1 r.2.1 r.2.2.1 r.2.2.2 v w' Fr' β') h.defers .returning k:=by
 have x:=t.back u (t.marks u);exact ez (S:=⟨w.heap.size,td w β oc,w,Fr,fn.ntmps,w,Fr,β,[]⟩) rfl h.defers {l with defers:=h.defers} k rfl ⟨c,d,x,n.trans o⟩ fun a3 B p _=>jy q A.rel.bx.1 z a3 B p
def tO(c:Good Γ S)(R:Rel P S.T S.base S.M S.w0 S.F0 S.nt st a w Fr β):∀g,Γ.D g->g<w.heap.size/\¬Up st a w β g:=fun g d=>by
 obtain⟨b,e⟩:=c.Nh g d;refine⟨Qf b R.ge,fun h=>?_⟩;rcases R.may g h with h|h<;>grind
theorem MZ(T:P.follows .mixedOrders=true)(W:P.funcs[hb]?=none)(u:dc P Γ cf){n}{qs}{J K}{f}{D}(c:Pr P qs J K f=some D)(G:LI P D.g D.Oa.length){args}{bx}{oc}{r}(h:FI cf n D args bx oc r)
 {vs} (j:Nl P Γ w Fr β args vs bx oc):Enters P f vs w fun e w'=>∃v Fr' β',e=.returned v/\di P w Fr β oc r.1 r.2.1 r.2.2.1 r.2.2.2 v w' Fr' β':=by
 obtain⟨q,o,s1,h1Z,h2Z⟩:=h;cases o with
 |exit i=>grind
 |ret=>
  unfold Pr at c;split at c
  case h_2=>cases c
  rename_i fn k;split at c
  case h_2=>cases c
  rename_i a id ops b d;split at c
  case h_2=>cases c
  split at c
  case isFalse=>cases c
  obtain⟨cs,I,c⟩:=qb c;obtain⟨⟨O,F⟩,t,c⟩:=qb c;obtain⟨⟨Q,L⟩,C,c⟩:=qb c;obtain⟨rs,x,rfl⟩:=qm c;refine enters_of (by grind [ij]) (fun e=>by grind) ?_;have M:Good Γ ⟨w.heap.size,td w β oc,w,Fr,fn.ntmps,w,Fr,β,[]⟩:=⟨j.g,fun g E=>⟨Γ.lt w j.g g E,j.Nh g E⟩⟩;have H:=Xv (nt:=fn.ntmps) j q;refine callsIn_wide.1 (callsIn_of_wp_marks (n:=0) k d trivial ?_);refine wpIn_seq (Uo (r:=none) T u M (f:=f) ⟨fn,k,rfl⟩ (fun l e=>by cases e) a 0 J O F t ia _ s1 .ret _ w _ h1Z rfl ⟨Fr,β,H,Le.refl _ _ _⟩ fun A y z=>?_);exact ez rfl _ A y rfl z fun B N p _=>jy x j.rel.bx.1 h2Z B N p
 |normal=>
  obtain⟨o,Y,h3Z,hno,hfZ⟩:=h2Z;refine kN T W u c q j h1Z fun fn b X hent H k C hrb x A y t z d L S R Q=>?_
  have M:Good Γ ⟨w.heap.size,td w β oc,w,Fr,D.nt,w,Fr,β,[]⟩:=⟨j.g,fun g E=>⟨Γ.lt w j.g g E,j.Nh g E⟩⟩;have O:Good Γ ⟨y.heap.size,Up (D.mid s1) A y z,y,t,D.nt,y,t,z,{target:=.fn (.func D.g) d.toArray,args:=#[]}::A.defers⟩:=⟨M.at L,tO M L⟩;have RbZ:=L.qS ({target:=.fn (.func D.g) d.toArray,args:=#[]}::A.defers);refine Uo (r:=none) T u O (f:=f) k (fun l e=>by cases e) b 0 K D.body X C ia _ Y o _ y _ h3Z Q ⟨t,z,RbZ,Le.refl _ _ _⟩ fun B N p=>?_
  have I:LeavesInM Fence.wide 0 P fn B.tmps (fun e w'=>∃v Fr' β',e=.returned v/\di P w Fr β oc r.1 r.2.1 r.2.2.1 r.2.2.2 v w' Fr' β') B.defers .returning N:=by
   have U:=p;obtain⟨Fr2,β2Z,R2Z,hl2⟩:=U;obtain⟨DsZ,d1Z,d2Z,d3Z⟩:=R2Z.df;rw[d2Z];refine tv da DsZ B N d2Z p fun a3 w3Z V ht _=>?_
   obtain⟨Fr3,β3Z,Z,F⟩:=V;dsimp only at Z F;unfold LeavesInM;refine⟨da,.inr ⟨(fun h=>by cases h),.func D.g,d.toArray,D.g,d.toArray,rfl,?_,fun _ _=>trivial,?_⟩⟩
   ·grind [bs,invoke]
   ·refine(G d w3Z (by have:=R.length;simpa using this)).mono ?_
    rintro e u'Z w' ⟨⟨v,rfl⟩,rfl,rfl⟩;rw[<-ht];exact jN (fn:=fn) j x (by rw[H];exact L) S (by rw[H];exact Z) F hfZ
  cases o with
  |exit i=>grind
  |normal=>exact I
  |ret=>exact I
def k8(hmZ:P.follows .mixedOrders=true)(Q:P.funcs[hb]?=none)(j:dc P Γ cf){pf}(L:Ci P Γ pf){n}{qs}{S y}{f}{D}(hDZ:Pr P qs S y f=some D){W}(c:zI P D.g W){kl}
 {args} {bx} {oc} {r} (h:MI cf pf n W kl D args bx oc r) {vs} (t:Nl P Γ w Fr β args vs bx oc):Enters P f vs w fun e w'=>∃v Fr' β',e=.returned v/\di P w Fr β oc r.1 r.2.1 r.2.2.1 r.2.2.2 v w' Fr' β':=by
 obtain⟨o,s1,rtZ,q,bx',h1Z,h2Z,h3Z,hfZ⟩:=h;refine kN hmZ Q j hDZ o t h1Z fun fn b R Y p I G hrb O C z d i a A J H F=>?_
 have X:Good Γ ⟨w.heap.size,td w β oc,w,Fr,D.nt,w,Fr,β,[]⟩:=⟨t.g,fun g Z=>⟨Γ.lt w t.g g Z,t.Nh g Z⟩⟩;have E:Good Γ ⟨z.heap.size,Up (D.mid s1) C z i,z,d,D.nt,z,d,i,{target:=.fn (.func D.g) a.toArray,args:=#[]}::C.defers⟩:=⟨X.at A,tO X A⟩;have RbZ:=A.qS ({target:=.fn (.func D.g) a.toArray,args:=#[]}::C.defers);refine DR (r:=none) hmZ j L E (f:=f) I (fun l e=>by cases e) b 0 y D.body R G ia rtZ _ q _ z _ h2Z F ⟨d,i,RbZ,Le.refl _ _ _⟩ fun U w2Z u=>?_
 show LeavesInM _ _ _ _ _ _ U.defers _ _;have M:=u;obtain⟨Fr2,β2Z,R2Z,hl2⟩:=M;obtain⟨DsZ,d1Z,V,d3Z⟩:=R2Z.df;rw[V];refine tv da DsZ U w2Z V u fun a3 w3Z N ht _=>?_
 obtain⟨B,T,R3Z,k⟩:=N;refine⟨da,.inr ⟨(fun h=>by cases h),.func D.g,a.toArray,D.g,a.toArray,rfl,?_,fun _ _=>trivial,?_⟩⟩
 ·grind [bs,invoke]
 ·refine(c q.1 (D.Oa.map (·.ev s1.sl)) (Th kl q) bx' h3Z _ _ _ _ _ _ a3 w3Z B T a R3Z (sa.mono k _ _ H)).mono ?_
  rintro e u'Z w' ⟨⟨v,rfl⟩,x,Fr4,R4Z,K⟩;dsimp only;rw[x,<-ht];exact jN (fn:=fn) t O (by rw[p];exact A) J (by rw[p];exact R4Z) (k.trans K) hfZ
end
section
variable {cf:Callee} {pf:he} {kl:List Nat} {n k:Nat} {st st':St} {f:FuncId} {q:Vg} {sl:List (Nat × PV)} {ow:List Loc} {al:List (Nat × Loc)} {bx:Ha}
def uI(args:List PV):PV->Option (FuncId×List PV)
 | .fb f Oa=>if f=hb then none else some (f,args++Oa)
 |_=>none
theorem zeD{args Oa}:uI args (.fb f Oa)=if f=hb then none else some (f,args++Oa):=rfl
theorem zeE{args}{b}:uI args (.Ma b)=none:=rfl
theorem zcQ{args}:kb st (.call f args)=some (f,Tk st.sl args):=by grind [kb,sq]
theorem zcR{g}{args}:kb st (.callv g args)=uI (Tk st.sl args) (g.ev st.sl):=by
 simp only[kb,sq];rfl
theorem zc8{x}:kb st (.mv x)=none:=rfl
theorem zc9{s}:kb st (.mvA s)=none:=rfl
theorem zcK{x}:kb st (.asg x)=none:=rfl
theorem zdd{c a b}:kb st (.pick c a b)=none:=rfl
theorem zcN{op}{x y}:kb st (.bin op x y)=none:=rfl
theorem zcM{a}{x y}:kb st (.beq a x y)=none:=rfl
theorem zcU{b}{a}{x y}:kb st (.Sk b a x y)=none:=rfl
theorem zda{x}:kb st (.sp x)=none:=rfl
theorem zdb{x}:kb st (.qk x)=none:=rfl
theorem zdi{op}{x}:kb st (.un op x)=none:=rfl
theorem zcT{t}{x}:kb st (.conv t x)=none:=rfl
theorem zcL{x}:kb st (.b2s x)=none:=rfl
theorem zcH{e}{zs}:kb st (.alloc e zs)=none:=rfl
theorem zcO{e m}{x}:kb st (.box e m x)=none:=rfl
theorem zcP{zs}{ps}:kb st (.build zs ps)=none:=rfl
theorem zc6{b}{l s}{zs}{ps}:kb st (.mksl b l s zs ps)=none:=rfl
theorem zc3{a}{m}{x}:kb st (.load a m x)=none:=rfl
theorem zc4{x}:kb st (.loadA x)=none:=rfl
theorem zc5{x}:kb st (.loadM x)=none:=rfl
theorem zdh{m}{a x}:kb st (.store m a x)=none:=rfl
theorem zcW{o}{a}:kb st (.im o a)=none:=rfl
theorem zcX{a}{o m}{x}:kb st (.jm a o m x)=none:=rfl
theorem zcY{s}{x i}:kb st (.Jg s x i)=none:=rfl
theorem zcZ{x i}:kb st (.idx x i)=none:=rfl
theorem zc0{a}{l s}{x i}:kb st (.om a l s x i)=none:=rfl
theorem zdc{l s}{x i}:kb st (.xm l s x i)=none:=rfl
theorem zdf{l s}{x}{b a}:kb st (.sliceP l s x b a)=none:=rfl
theorem zcJ{x y}:kb st (.appendS x y)=none:=rfl
theorem zde{s}{x}{b a}:kb st (.slice s x b a)=none:=rfl
theorem zdg{x}{b a}:kb st (.sliceS x b a)=none:=rfl
theorem zcV{x}{i}:kb st (.ext x i)=none:=rfl
theorem zc1{x}:kb st (.len x)=none:=rfl
theorem zc2{x}:kb st (.Gn x)=none:=rfl
theorem zcI{b}{s}{x y}:kb st (.append b s x y)=none:=rfl
theorem zc7{b}{x y}:kb st (.mm b x y)=none:=rfl
theorem zcS{Oa}:kb st (.clos f Oa)=none:=rfl
def Bi(cf:Callee)(pf:he)(kl:List Nat)(f:FuncId)(r:List Qa)(k:Nat)(q:Vg):Option St->Prop
 |some s=>Je cf pf kl f r k s q
 |none=>False
theorem zeH{r}:Bi cf pf kl f r k q (some st)=Je cf pf kl f r k st q:=rfl
def pr(cf:Callee)(pf:he)(kl:List Nat)(f:FuncId)(r:List Qa)(k:Nat)(st:St)(q:Vg)(d:Option Nat)(op:Ea):Option (FuncId×List PV)->Prop
 |some (g,args)=>if g=f then(match k with|0=>Df pf kl st f args q|k+1=>Bi cf pf kl f r k q (na cf st d op))else Bi cf pf kl f r k q (na cf st d op)
 |none=>Bi cf pf kl f r k q (na cf st d op)
theorem zeC{r}{d}{op}:pr cf pf kl f r k st q d op none=Bi cf pf kl f r k q (na cf st d op):=rfl
theorem zez{r}{d}{op}{g}{args}:pr cf pf kl f r 0 st q d op (some (g,args))=if g=f then Df pf kl st f args q else Bi cf pf kl f r 0 q (na cf st d op):=rfl
theorem zeA{r}{d}{op}{g}{args}:pr cf pf kl f r 1 st q d op (some (g,args))=if g=f then Bi cf pf kl f r 0 q (na cf st d op)else Bi cf pf kl f r 1 q (na cf st d op):=rfl
theorem zeB{r}{d}{op}{g}{args}:pr cf pf kl f r 2 st q d op (some (g,args))=if g=f then Bi cf pf kl f r 1 q (na cf st d op)else Bi cf pf kl f r 2 q (na cf st d op):=rfl
def SA(cf:Callee)(pf:he)(kl:List Nat)(f:FuncId)(r:List Qa)(k:Nat)(st:St)(q:Vg)(d:Option Nat)(op:Ea)(a:Bool):PV->Prop
 | .flat (.bool b)=>if b=a then pr cf pf kl f r k st q d op (kb st op)else Bi cf pf kl f r k q (some (st.Uc d (.Mb [])))
 | .Mb []=>Bi cf pf kl f r k q (some (st.Uc d (.Mb [])))
 |_=>False
theorem vU{r}{d}{op}{b a}:SA cf pf kl f r k st q d op a (.flat (.bool b))=if b=a then pr cf pf kl f r k st q d op (kb st op)else Bi cf pf kl f r k q (some (st.Uc d (.Mb []))):=rfl
theorem zeG{r}{d}{op}{a}:SA cf pf kl f r k st q d op a (.Mb [])=Bi cf pf kl f r k q (some (st.Uc d (.Mb []))):=rfl
theorem zeR:Je cf pf kl f [] k st q=False:=rfl
theorem zeN{r}{d}{op}:Je cf pf kl f (⟨d,none,op⟩::r) k st q=pr cf pf kl f r k st q d op (kb st op):=by
 rfl
theorem zeO{r}{d}{op}{s}{c}:Je cf pf kl f (⟨d,some (s,c),op⟩::r) k st q=SA cf pf kl f r k st q d op c (look st.sl s):=by
 have e:∀p:PV,look st.sl s=p->(∀b,p≠.flat (.bool b))->p≠.Mb []->Je cf pf kl f (⟨d,some (s,c),op⟩::r) k st q=False:=by
  intro p i n o;have g:de st (some (s,c))=none:=by
   unfold de;dsimp only;rw[i];cases p with
   |flat v=>simp
   |Mb l=>simp
   |_=>rfl
  simp only[Je,Tf,stepG,g];rfl
 have j:look st.sl s=.Mb []->Je cf pf kl f (⟨d,some (s,c),op⟩::r) k st q=Bi cf pf kl f r k q (some (st.Uc d (.Mb []))):=by
  intro i;have g:de st (some (s,c))=some false:=by unfold de;dsimp only;rw[i]
  simp only[Je,Tf,stepG,g];rfl
 have t:∀b,look st.sl s=.flat (.bool b)->Je cf pf kl f (⟨d,some (s,c),op⟩::r) k st q=SA cf pf kl f r k st q d op c (.flat (.bool b)):=by
  intro b i;have g:de st (some (s,c))=some (b==c):=by unfold de;dsimp only;rw[i]
  rw[vU];by_cases n:b=c
  ·subst n
   rw[beq_self_eq_true]at g;simp only[Je,Tf,stepG,g];rfl
  ·have o:(b==c)=false:=by simpa using n
   rw[o]at g;rw[if_neg n];simp only[Je,Tf,stepG,g];rfl
 generalize i:look st.sl s=p at*;cases p with
 |flat v=>
  cases v with
  |bool b=>grind
  |_=>exact e _ rfl (fun b h=>by cases h) (fun h=>by cases h)
 |Mb l=>
  cases l with
  |nil=>exact j rfl
  |cons a l=>exact e _ rfl (fun b h=>by cases h) (fun h=>by cases h)
 |_=>exact e _ rfl (fun b h=>by cases h) (fun h=>by cases h)
theorem XH:∀l,Rg (oi sl l)=l.map (look sl)
 |[]=>rfl
 |i::l=>by rw[TF,WH,XH l];rfl
theorem zeL{args}{v}{a}{b}{o}:Df pf kl ⟨sl,ow,al,bx⟩ f args (v,a,b,o)=(a=Rg (oi sl kl)/\if gc args=true then(∃c p,pf f args [] [] (v,c,p))/\b=bx/\o=Oe ow else pf f args bx (Oe ow) (v,b,o)):=by
 grind [Df,jq,XH]
def bu(cf:Callee)(pf:he)(kl:List Nat)(f:FuncId)(t:BT)(k:Nat)(q:Vg):Option St->Prop
 |some s=>Qd cf pf kl f t k s q
 |none=>False
theorem zeZ{t}:bu cf pf kl f t k q (some st)=Qd cf pf kl f t k st q:=rfl
def TA(cf:Callee)(pf:he)(kl:List Nat)(f:FuncId)(t:BT)(k:Nat)(st:St)(q:Vg)(d:Option Nat)(op:Ea):Option (FuncId×List PV)->Prop
 |some (g,args)=>if g=f then(match k with|0=>Df pf kl st f args q|k+1=>bu cf pf kl f t k q (na cf st d op))else bu cf pf kl f t k q (na cf st d op)
 |none=>bu cf pf kl f t k q (na cf st d op)
theorem zeY{t}{d}{op}:TA cf pf kl f t k st q d op none=bu cf pf kl f t k q (na cf st d op):=rfl
theorem zeX{t}{d}{op}{g}{args}:TA cf pf kl f t 0 st q d op (some (g,args))=if g=f then Df pf kl st f args q else bu cf pf kl f t 0 q (na cf st d op):=rfl
theorem ze1{t}{d}{op}:Qd cf pf kl f (.one ⟨d,none,op⟩ t) k st q=TA cf pf kl f t k st q d op (kb st op):=ja
theorem ze2{t r}{d}{op}:Qd cf pf kl f (.two ⟨d,none,op⟩ t r) k st q=(TA cf pf kl f t k st q d op (kb st op)/\Qd cf pf kl f r k st q):=ja
theorem zeT{live}{a}:mb cf pf kl n (.Ld live [] a) (.op f k) st q=Je cf pf kl f a k st q:=rfl
def yQ(cf:Callee)(pf:he)(kl:List Nat)(f:FuncId)(t:BT)(k:Nat)(q:Vg):Option St->Prop
 |some s=>Qd cf pf kl f t k s q
 |none=>False
theorem ze0{t}:yQ cf pf kl f t k q (some st)=Qd cf pf kl f t k st q:=rfl
theorem zeU{live}{pre}{t}:mb cf pf [] n (.dg live pre t) (.op f k) st q=yQ cf pf [] f t k q (ye cf pre st):=by
 have h:(pre.all fun o=>match o.dst with|some d=>!([]:List Nat).contains d|none=>true)=true:=by
  rw[Dj];intro o _;cases o.dst<;>rfl
 apply propext;constructor
 ·rintro⟨_,a⟩
  cases b:ye cf pre st with
  |none=>grind
  |some s=>rw[b]at a;exact a
 ·intro a
  refine⟨h,?_⟩;cases b:ye cf pre st with
  |none=>rw[b]at a;exact a
  |some s=>rw[b]at a;exact a
theorem zeP{a b}{r}:mb cf pf kl n (.seq a b) (.l r) st q=mb cf pf kl n a r st q:=ja
def wU(cf:Callee)(pf:he)(kl:List Nat)(n:Nat)(b:oa)(r:Rt)(q:Vg):Option (Out×St)->Prop
 |some (.normal,s)=>mb cf pf kl n b r s q
 |_=>False
theorem zeJ{b}{r}:wU cf pf kl n b r q (some (.normal,st))=mb cf pf kl n b r st q:=rfl
theorem zeV{a b}{r}:mb cf pf kl n (.seq a b) (.r r) st q=wU cf pf kl n b r q (pa cf n a st):=by
 rfl
def uU(cf:Callee)(pf:he)(kl:List Nat)(n:Nat)(a b:oa)(r:Rt)(st:St)(q:Vg):PV->Prop
 | .flat (.bool t)=>if t then mb cf pf kl n a r st q else mb cf pf kl n b r st q
 |_=>False
theorem zeF{a b}{r}{t}:uU cf pf kl n a b r st q (.flat (.bool t))=if t then mb cf pf kl n a r st q else mb cf pf kl n b r st q:=rfl
theorem zeM{c}{a b}{r}:mb cf pf kl n (.cond c a b) r st q=uU cf pf kl n a b r st q (c.ev st.sl):=by
 rfl
theorem zeK{i}{b}{r}:mb cf pf kl n (.block i b) r st q=mb cf pf kl n b r st q:=ja
theorem zeQ{live}{b}{m}{r}:mb cf pf kl n (.loop live b) (.lp m r) st q=kg (pa cf n b) (fun s=>mb cf pf kl n b r s q) live st.bx.length m (st.only live st.bx.length):=ja
def vI(pf:he)(kl:List Nat)(f k:Nat)(live:List Nat)(st:St)(q:Vg):PV->Prop
 | .fb h Oa=>h≠hb/\q.2.1=Rg (oi st.sl kl)/\pf h (.Ma st.bx.length::Oa) (st.bx++[(0,[.lp f k .ready live (Rg (oi st.sl live))])]) (Oe st.ow) (q.1,q.2.2)
 |_=>False
theorem zeI{live}{h}{Oa}{f k}:vI pf kl f k live st q (.fb h Oa)=(h≠hb/\q.2.1=Rg (oi st.sl kl)/\pf h (.Ma st.bx.length::Oa) (st.bx++[(0,[.lp f k .ready live (Rg (oi st.sl live))])]) (Oe st.ow) (q.1,q.2.2)):=rfl
theorem zeS{f k}{live}{g}:mb cf pf kl n (.range f k live g) .rg st q=vI pf kl f k live st q (g.ev st.sl):=by
 simp only[mb,Ar]
 grind [vI,XH,jq]
theorem jz{σ:Type}{body}{pbody}{live}{nb}(b:σ->St)(I:σ->Prop)(μ:σ->Nat)
 (h:∀a,I a->pbody (b a)\/∃s a',body (b a)=some (.normal,s)/\s.only live nb=b a'/\I a'/\μ a'<μ a):∀(m)(a),I a->μ a<m->∃j,kg body pbody live nb j (b a)
 |0,a,_,g=>by omega
 |m+1,a,e,g=>by
  rcases h a e with c|⟨s,a',c,i,d,k⟩
  ·exact⟨0,c⟩
  ·obtain⟨j,l⟩:=jz b I μ h m a' d aa
   refine⟨j+1,?_⟩
   grind [kg]
variable {code:FuncId→Option Ba} {n0:Nat} {plib:he}
def n8{c}(j:code f=some c){args}{bx}{oc}(k:args.length<=c.nt)(g){v}{d a}{e b}(h:mb cf (Vp code cf n0 plib) [] n0 c.body g {sl:=ag 0 args,ow:=oc,al:=[],bx:=bx} (v,[],d,e))
 (i:trim bx.length [] d=a) (l:∀L∈b,L∈Nb a.length e):Vp code cf n0 plib f args bx oc (v,a,b):=by
 subst i;exact p8 j k g h (O:=b) fun L n=>by grind [Ct]
end
attribute [go_sem] zeD zeE zcQ zcR zc8 zc9 zcK zdd zcN zcM zcU zda
attribute [go_sem] zdb zdi zcT zcL zcH zcO zcP zc6 zc3 zc4 zc5 zdh
attribute [go_sem] zcW zcX zcY zcZ zc0 zdc zdf zcJ zde zdg zcV zc1
attribute [go_sem] zc2 zcI zc7 zcS zeH zeC zez zeA zeB vU zeG zeR
attribute [go_sem] zeN zeO zeL zeZ zeY zeX ze1 ze2 zeT ze0 zeU zeP
attribute [go_sem] zeJ zeV zeF zeM zeK zeQ zeI zeS
section
variable {P:Program} {w w':World} {r:Option Nat} {Fr Fr':Nat→Nat} {β β':List Nat} {T:List Deferred} {base nt:Nat} {M:Nat→Prop} {w0:World} {F0:Nat→Nat} {st st':St} {a a':Act} {cf:Callee} {Γ:Ze} {S:S0}
def Qw(F:Fence)(P:Program)(o:Oper):Prop:=∀(ρ:Operand->Value)(w:World)(d:Deferred)(w':World),(o.semAt F.round ρ).run P w≠.ok (.defer d) w'
def F7{F}{n}{o}(i:Qw F P o){K}{Q Q'}(j:∀e a' w',e≠.normal->Q e a' w'->Q' e a' w')(h:o.wpIn F n P a w K Q):o.wpIn F n P a w (fun a' w'=>K a' w'/\a'.defers=a.defers) Q':=by
 unfold Oper.wpIn at*;refine⟨h.1,?_⟩;have b:=h.2;have p:=i a.eval w;generalize (o.semAt F.round a.eval).run P w=x at*;cases x with
 |ok y k=>
  cases y with
  |value v=>exact⟨b,gm _ _ _⟩
  |skip=>exact⟨b,gm _ _ _⟩
  |defer d=>grind
  |enter f args=>exact⟨b.1,CallsIn.mono b.2 (fun e c g=>by
   grind [gm,LetsOut])⟩
  |row q args=>exact⟨b.1,RowsIn.mono b.2 (fun v c g=>⟨g,gm _ _ _⟩)⟩
  |round l f tmps az body=>exact⟨b.1,RoundIn.mono b.2 (fun e c g=>by
   grind [gm,LetsOut])⟩
  |_=>exact b.elim
 |halt y k=>
  cases y with
  |panic v=>exact j _ _ _ da b
  |_=>exact b.elim
theorem Yw{F}{n}{md}{ops}(d:∀(i:Nat)(o),ops[i]?=some o->Qw F P o){Q Q'}{D}(g:∀e a' w',Q e a' w'->(e=.normal->a'.defers=D)->Q' e a' w'):∀(fuel)(b)(a)(w),a.defers=D->wpAnyIn F n P md ops Q fuel b a w->wpAnyIn F n P md ops Q' fuel b a w
 |0,b,a,w,j,h=>⟨h.1,g _ _ _ h.2 fun _=>j⟩
 |fuel+1,b,a,w,j,h=>by
  refine⟨fun e=>g _ _ _ (h.1 e) fun _=>j,fun i r=>?_⟩;have c:=h.2 i r;unfold wpOpIn at c⊢;split
  ·rename_i l
   simp only[l]at c;exact Yw d g fuel _ a w j c
  ·rename_i o l
   simp only[l]at c;split
   ·rename_i p
    simp only[p,if_true]at c;refine Oper.wpIn_mono (fun a' w' k=>?_) (F7 (d i o l) (Q':=Q') (fun e a' w' ra k=>g _ _ _ k fun q=>absurd q ra) c);exact Yw d g fuel _ a' w' (k.2.trans j) k.1
   ·rename_i p
    simp only[p]at c;exact⟨c.1,Yw d g fuel _ _ w ((gm _ _ _).trans j) c.2⟩
def t_(g:dc P Γ cf)(z:Good Γ S){ops}{qs}{q}(b:So P qs S.nt ops=some q){live}{stk F}(v:ye cf q.1 st=some stk)(x:yd cf live q.2 stk=some F)
 (e:st.al=[]) (hr:Rl P S st a w) {Q} (y:∀s a' w',s.uf live=F->Rl P S s a' w'->Q .normal a' w'):wpAnyIn (fw r) 0 P .any ops Q ops.size (Array.replicate ops.size false) a {w with drawn:=w.drawn+1}:=by
 unfold So at b;obtain⟨cs,d,b⟩:=qb b;obtain⟨u,h,rfl⟩:=qm d;obtain⟨p,n⟩:=pp h;split at b
 case isFalse=>cases b
 rename_i k;cases b;have l:Rl P S st a {w with drawn:=w.drawn+1}:=by
  obtain⟨Fr,β,R,B⟩:=hr;have A:Below w.heap.size w {w with drawn:=w.drawn+1}:=⟨rfl,rfl,rfl,la _,fun _ _=>rfl⟩;obtain⟨t,i⟩:=R.grow A (Fr':=Fr) (fun _ _=>rfl);exact⟨Fr,β,t,B.trans i⟩
 exact rN g z (ali:=ops.toList.filterMap Fo) k (fun j c o=>by
  rw[Bw]at o;obtain⟨t,i,rfl⟩:=qm o
  grind [aG]) e v x l y
def Rel.C_(R:Rel P T base M w0 F0 nt st a w Fr β)(n:st.ow=[]){st'}{a'}{nt'}(c:∀i,Rd w Fr β (look st'.sl i) (a'.tmps.getD i undef))(b:a'.tmps.size=nt')(k:a'.defers=a.defers)(j:st'.ow=[])(e:st'.al=[])(h:st'.bx=st.bx):Rel P T base M w0 F0 nt' st' a' w Fr β where
 sl:=c
 nt:=b
 df:=by grind [df]
 bx:=by grind [bx]
 nd:=R.nd
 own:=fun L d=>by grind
 sep:=fun L d=>by grind
 out:=fun L d=>by grind
 al:=fun p o=>by grind
 may:=fun g l=>R.may g (.inl (by
  grind))
 old:=R.old
 ge:=R.ge
 os:=R.os
 tape:=R.tape
 output:=R.output
def sW{o}{b}{x}(R:Rel P T base M w0 F0 nt st a w Fr β)(y:Rl P ⟨w.heap.size,td w β [],w,Fr,o,w,Fr,β,[]⟩ b x w'){bx'}(k:trim st.bx.length [] b.bx=bx')(r:bx'.length=st.bx.length):
 ∃Fr',Rel P T base M w0 F0 nt ⟨st.sl,[],[],bx'⟩ a w' Fr' β/\Le w Fr β w' Fr' β:=by
 obtain⟨t,B,u,l⟩:=y;have v:Rel P T base M w0 F0 nt ⟨st.sl,[],[],st.bx⟩ a w Fr β:=R.dm (fun i=>.inr rfl) rfl (fun L j=>by cases j) rfl;obtain⟨C,c⟩:=Nz (vs2:=[]) (v0:=.tuple #[]) (os:=false) (bx:=st.bx) (oc':=Yg bx'.length b.ow) R.bx.1 u.bare l (by simp[Nc,Rd,sa]) (fun h=>by cases h) k rfl;have n:=c;have:=oC (S:=⟨base,M,w0,F0,nt,w,Fr,β,T⟩) (dst:=none) (f:=0) (args:=[]) n (st':=⟨st.sl,(Yg bx'.length b.ow).filter Ca++[],[],bx'⟩) ja (fun d h=>by cases h) v (Le.refl _ _ _) (K:=fun a' w'=>Rl P ⟨base,M,w0,F0,nt,w,Fr,β,T⟩ ⟨st.sl,(Yg bx'.length b.ow).filter Ca++[],[],bx'⟩ a' w') (fun a' w' hr=>hr);obtain⟨g,p,q,e⟩:=this;have z:p=β:=by
  have e1:=q.bx.1;have e2:=R.bx.1;dsimp only at e1;refine List.ext_getElem? fun i=>?_
  by_cases A:i<β.length
  ·have:=e.box i β[i] (qe A)
   grind
  ·grind
 subst z;exact⟨g,q.dm (fun i=>.inr rfl) rfl (fun L j=>by cases j) rfl,e⟩
end
variable {lib:Callee}
def gb(c:UInt8):ba->List ba
 |[]=>[[]]
 |x::l=>if x=c then[]::gb c l else(match gb c l with|p::ps=>(x::p)::ps|[]=>[[x]])
theorem Mx{c}:∀{l},Zb c l=none->gb c l=[l]
 |[],h=>rfl
 |x::l,h=>by
  simp only[Zb]at h;split at h
  ·cases h
  ·rename_i b
   have a:Zb c l=none:=by simpa using h
   simp only[gb,if_neg b,Mx a]
theorem Nx{c}:∀{l}{i},Zb c l=some i->gb c l=l.take i::gb c (l.drop (i+1))
 |[],i,h=>by cases h
 |x::l,i,h=>by
  simp only[Zb]at h;split at h
  ·grind [gb]
  ·rename_i b
   obtain⟨j,a,rfl⟩:=qm h;simp only[gb,if_neg b,Nx a,Ft,ir]
def bj(s w)(k:Nat)(hs:s.length<=1000000000)(e:w.length<=1000000000)(d:k<=1000000000):fa code lib 105 [.flat (.string (S s)),.flat (.string (S w)),.flat (.int .i64 (k:Nat))] [] []=some ([.flat (.bool (Wa s w k))],false,[],[]):=by
 refine ma dX (qa rfl) ?_;have c:(0:Int)<=(k:Nat):=aa
 have g:IntKind.i64.wrap ((s.length:Int) - (k:Int))=(s.length:Int) - (k:Int):=wrap64 aa;have i:IntKind.i64.wrap ((k:Int)+(w.length:Int))=((k+w.length:Nat):Int):=by rw[wrap64 aa];rfl
 by_cases h:k<=s.length
 ·have c1:(k:Int)<=s.length:=aa
  by_cases a:w.length<=s.length - k
  ·have c2:(w.length:Int)<=(s.length:Int) - (k:Int):=aa
   have c3:(k:Int)<=((k+w.length:Nat):Int):=aa
   have c4:((k+w.length:Nat):Int)<=s.length:=aa
   have b:=gT s w k a h;exact va @Wa.eq_1
  ·have c2:¬(w.length:Int)<=(s.length:Int) - (k:Int):=aa
   have b:=J9 (s.drop k) w ia;exact va @Wa.eq_1
 ·have c1:¬(k:Int)<=s.length:=aa
  exact va @Wa.eq_1
theorem RM{c}(t:ba):∀p,(∀x∈p,x≠c)->gb c (p++c::t)=p::gb c t
 |[],h=>by simp[gb]
 |y::p,h=>by
  have:=RM t p fun x a=>h x (po _ a)
  grind [gb.eq_2]
theorem SM{c}:∀p,(∀x∈p,x≠c)->gb c p=[p]
 |[],h=>rfl
 |y::p,h=>by
  have:=SM p fun x a=>h x (po _ a)
  grind [gb.eq_2]
def tq(s:ba)(c:UInt8)(q:List ba×Nat)(k:Nat)(x:UInt8):(List ba×Nat) ⊕ (Out×St):=.inl (if x.toNat=c.toNat then(q.1++[(s.take k).drop q.2],k+1)else q)
theorem bI(s:ba)(c)(fin):∀(t:ba)(out)(fr k),s.drop k=t->fr<=k->k<=s.length->(∀x∈(s.take k).drop fr,x≠c)->∃st,jd (tq s c) fin (out,fr) k t=fin st/\st.1++[s.drop st.2]=out++gb c (s.drop fr)/\st.2<=s.length/\st.1.length<=out.length+t.length
 |[],out,fr,k,h,g,i,a=>by
  have b:k=s.length:=by have:=congrArg List.length h;rw[Ya]at this;simp at this;omega
  subst b;rw[Eh]at a;exact⟨(out,fr),rfl,by rw[SM _ a],aa,da⟩
 |x::t,out,fr,k,h,g,i,a=>by
  have ea:k<s.length:=by have:=congrArg List.length h;rw[Ya]at this;simp at this;omega
  have d:=ld ea;rw[d]at h;obtain⟨e,ht⟩:=List.cons.inj h;have q:s.take (k+1)=s.take k++[x]:=by rw[Km ea,e]
  have p:s.drop fr=(s.take k).drop fr++x::t:=by
   rw[<-e,<-ht,<-d]
   conv=>lhs;rw[<-jI k s]
   rw[List.drop_append_of_le_length ia]
  simp only[jd,tq];by_cases b:x.toNat=c.toNat
  ·have r:=Yb.1 b
   rw[if_pos b];obtain⟨st,j,l,n,o⟩:=bI s c fin t (out++[(s.take k).drop fr]) (k+1) (k+1) ht (la _) ea da
   grind [RM]
  ·rw[if_neg b]
   obtain⟨st,j,l,n,o⟩:=bI s c fin t out fr (k+1) ht aa ea (by
    grind)
   grind
def ws(s:ba)(c:UInt8)(q:List ba×Nat)(k:Nat):St:=⟨[(0,.flat (.string (S s))),(1,.flat (.int .u8 c.toNat)),(5,.ha q.1.length (ua q.1)),(6,.flat (.int .i64 (q.2:Nat))),(7,.flat (.int .i64 (k:Nat)))],[.slot 5],[],[]⟩
def MC(s)(c)(hs:s.length<=1000000000):fa code lib 129 [.flat (.string (S s)),.flat (.int .u8 c.toNat)] [] []=some ([.ha (gb c s).length (ua (gb c s))],true,[],[]):=by
 refine ma eX (qa rfl) ?_
 have a:=Nf (body:=pa (fa code lib) ka mB) (live:=[0,1,5,6,7]) (nb:=0) (ws s c) s (fun q k=>q.2<=k/\q.1.length<=k)
  (tq s c) (fun q=>(.exit 0,⟨[(0,.flat (.string (S s))),(5,.ha q.1.length (ua q.1)),(6,.flat (.int .i64 (q.2:Nat)))],[.slot 5],[],[]⟩)) (fun⟨out,fr⟩ k x b g l e=>?_) (fun _ _=>by simp only[ws,go_sem,simprocAttr]) (fun⟨out,fr⟩ k x a' b _ _ h=>by
    grind [tq]) (fun _ _ x r h=>by grind [tq]) (fun⟨out,fr⟩ b=>?_) (fun _=>by simp) ([],0) ⟨la _,la _⟩ (by grind [ka])
 ·obtain⟨⟨out,fr⟩,e,g,i,j⟩:=bI s c (fun q=>(.exit 0,⟨[(0,.flat (.string (S s))),(5,.ha q.1.length (ua q.1)),(6,.flat (.int .i64 (q.2:Nat)))],[.slot 5],[],[]⟩)) s [] 0 0 rfl (la _) (Za _) da
  rw[e]at a;simp only[ws,n0,ya,ua,Bf]at a;simp only[Gb,Af]at g;have d:out.length+1<=Da:=by unfold Da;simp only[ya]at j;omega
  have c1:(0:Int)<=(fr:Nat):=aa
  have c2:(fr:Int)<=s.length:=by dsimp only at i;omega
  have n:(s.take s.length).drop fr=s.drop fr:=by rw[Eh]
  have e1:[PV.flat (.string (S (s.drop fr)))]=ua [s.drop fr]:=rfl;have e2:List.map (fun x=>PV.flat (.string (S x))) out=ua out:=rfl;rw[e2]at a;simp only[go_sem,simprocAttr,a,Na,Tg,c1,c2,n,cc,bc,Xe,d]
  grind [Al]
 ·dsimp only at b
  have c1:(k:Int)<s.length:=aa
  have c2:(0:Int)<=(k:Nat):=aa
  have c3:(0:Int)<=(fr:Nat):=aa
  have c4:(fr:Int)<=(k:Nat):=aa
  have c5:(k:Int)<=s.length:=aa
  have i:IntKind.i64.wrap ((k:Int)+1)=((k+1:Nat):Int):=wrap64 aa;have d:out.length+1<=Da:=Me
  have e1:[PV.flat (.string (S ((s.take k).drop fr)))]=ua [(s.take k).drop fr]:=rfl;have g:((x.toNat:Int)=c.toNat)=(x.toNat=c.toNat):=by apply propext;omega
  by_cases h:x.toNat=c.toNat
  ·have e:=eq_true h
   simp only[sG,ws,tq,go_sem,simprocAttr,Na,Xc,Tg,cc,l,Kg,c1,c2,c3,c4,c5,i,g,e,d,bc,Xe]
   grind [Al]
  ·have e:=eq_false h
   exact Zf sG @ws.eq_1 @tq.eq_1
 ·dsimp only at b
  have c1:¬(s.length:Int)<s.length:=aa
  exact Rc sG @ws.eq_1
def Ve(mark:ba):ba:=[45,45]++mark++[13,10]
def Ke(mark:ba):ba:=[13,10,45,45]++mark++[13,10]
def Wf(mark:ba):ba:=[13,10,45,45]++mark++[45,45,13,10]
def Hh(s mark:ba)(q:List ba×Nat×Nat):(List ba×Nat×Nat) ⊕ Option (List ba×Bool):=
 if q.2.2<s.length then
  if Wa s (Ke mark) q.2.2 then .inl (q.1++[(s.take q.2.2).drop q.2.1],q.2.2+(Ke mark).length,q.2.2+(Ke mark).length)
  else if Wa s (Wf mark) q.2.2 then .inr (some (q.1++[(s.take q.2.2).drop q.2.1],decide (q.2.2+(Wf mark).length=s.length)))
  else .inl (q.1,q.2.1,q.2.2+1)
 else .inr none
def fq(s mark:ba):Option (List ba×Bool):=if Wa s (Ve mark) 0 then hc (Hh s mark) none (s.length+1) ([],(Ve mark).length,(Ve mark).length)else none
def xq(s mark:ba)(q:List ba×Nat×Nat):St:=⟨[(0,.flat (.string (S s))),(7,.flat (.string (S (Ke mark)))),(8,.flat (.string (S (Wf mark)))),(9,.ha q.1.length (ua q.1)),(10,.flat (.int .i64 (q.2.1:Nat))),(11,.flat (.int .i64 (q.2.2:Nat)))],[.slot 9],[],[]⟩
def ls:Option (List ba×Bool)->Out×St
 |none=>(.exit 0,⟨[],[],[],[]⟩)
 |some (out,ok)=>(.ret,⟨[(4,.ha out.length (ua out)),(5,.flat (.bool ok))],[.slot 4],[],[]⟩)
def Ho{s w}{k}(h:Wa s w k=true):k+w.length<=s.length:=by
 grind [Wa]
theorem KV(s mark)(hs:s.length<=100000000)(D:mark.length<=1000000):fa code lib 107 [.flat (.string (S s)),.flat (.string (S mark))] [] []=some (match fq s mark with
 |none=>([.ha 0 [],.flat (.bool false)],false,[],[])
 |some (out,ok)=>([.ha out.length (ua out),.flat (.bool ok)],false,[],[])):=by
 have B:Da=4294967296:=rfl;have E:(Ve mark).length=mark.length+4:=by simp[Ve]
 have lb:(Ke mark).length=mark.length+6:=by simp[Ke]
 have le:(Wf mark).length=mark.length+8:=by simp[Wf]
 have l:=bj (lib:=lib) s (Ve mark) 0 aa aa aa;simp only[n0]at l;refine ma EX (qa rfl) ?_;unfold fq;have y:S (45::45::(mark++[13,10]))=S (Ve mark):=rfl;have v:S (13::10::45::45::(mark++[13,10]))=S (Ke mark):=rfl;have w:S (13::10::45::45::(mark++[45,45,13,10]))=S (Wf mark):=rfl;cases j:Wa s (Ve mark) 0 with
 |false=>
  rw[j]at l;exact va @l
 |true=>
  rw[j]at l;have x:=Ho j
  have c:=Jn (body:=pa (fa code lib) ka KB) (live:=[0,7,8,9,10,11]) (nb:=0) (xq s mark) (Hh s mark) none ls (fun q=>q.2.1<=q.2.2/\q.2.2<=s.length/\q.1.length<=q.2.2) (fun q=>s.length - q.2.2) (fun q z=>?_) (fun q z=>by simp only[xq,go_sem,simprocAttr])
   (fun a b A h=>?_) (fun r=>by cases r<;>simp[ls]) (n:=s.length+1) ([],(Ve mark).length,(Ve mark).length) ⟨la _,ia,Za _⟩ aa (by grind [ka])
  ·obtain⟨R,g⟩:∃R,hc (Hh s mark) none (s.length+1) ([],(Ve mark).length,(Ve mark).length)=R:=⟨_,rfl⟩
   rw[g]at c;simp only[if_true,g];unfold xq at c;have k:ua ([]:List ba)=[]:=rfl;simp only[ya,k]at c;have e:(S (Ve mark)).size=(Ve mark).length:=Na;cases R with
   |none=>
    simp only[ls]at c;simp(maxSteps:=999999) (disch:=first|assumption|omega) only[go_sem,simprocAttr,au,l,y,v,w,c,e]
   |some r=>
    obtain⟨out,ok⟩:=r;simp only[ls]at c;simp(maxSteps:=999999) (disch:=first|assumption|omega) only[go_sem,simprocAttr,au,l,y,v,w,c,e]
  ·obtain⟨out,fr,i⟩:=q
   obtain⟨p,t,u⟩:=z;dsimp only at p t u;have c1:=bj (lib:=lib) s (Ke mark) i aa aa aa;have c2:=bj (lib:=lib) s (Wf mark) i aa aa aa;have e1:[PV.flat (.string (S ((s.take i).drop fr)))]=ua [(s.take i).drop fr]:=rfl;unfold Hh;dsimp only;by_cases ea:i<s.length
   ·rw[if_pos ea]
    cases d:Wa s (Ke mark) i with
    |true=>
     rw[d]at c1;have g:=Ho d;simp only[if_true,Vb];obtain⟨n,o⟩:∃n,(Ke mark).length=n:=⟨_,rfl⟩;simp only[o]at g lb⊢;unfold xq;have k:(S (Ke mark)).size=n:=by rw[Na,o]
     have e:IntKind.i64.wrap ((i:Int)+(n:Int) - 1+1)=((i+n:Nat):Int):=by rw[wrap64 aa];omega
     simp(maxSteps:=999999) (disch:=first|assumption|omega) only[go_sem,simprocAttr,au,c1,k,Hz,bc,Xe,e]
     grind [Al]
    |false=>
     rw[d]at c1;simp only[Fa,if_false];cases e:Wa s (Wf mark) i with
     |true=>
      rw[e]at c2;have g:=Ho e;simp only[if_true,Vb,ls];obtain⟨n,o⟩:∃n,(Wf mark).length=n:=⟨_,rfl⟩;simp only[o]at g le⊢;unfold xq;have k:(S (Wf mark)).size=n:=by rw[Na,o]
      simp(maxSteps:=999999) (disch:=first|assumption|omega) only[go_sem,simprocAttr,au,c1,c2,k,Hz,bc,Xe];have C:((i:Int)+(n:Int)=(s.length:Nat))=(i+n=s.length):=by apply propext;omega
      grind [Al]
     |false=>
      rw[e]at c2;simp only[Fa,if_false,Vb];unfold xq;exact va Hz
   ·rw[if_neg ea]
    simp only[Vb,ls];unfold xq;exact va Hz
  ·obtain⟨out,fr,i⟩:=a
   obtain⟨p,t,u⟩:=A;dsimp only at p t u;unfold Hh at h;dsimp only at h;split at h
   ·split at h
    ·rename_i d
     have:=Ho d
     grind
    grind
   grind
variable {lib:Callee}
def Kb:ba->Nat->Nat->Nat×Bool
 |_,r,0=>(r,true)
 |c::l,r,m+1=>if 128<=c.toNat/\c.toNat<192 then Kb l (r* 64+(c.toNat - 128)) m else(0,false)
 |[],_,_+1=>(0,false)
theorem sD:∀(l)(r m),l.length<m->Kb l r m=(0,false)
 |l,r,0,h=>by omega
 |[],r,m+1,h=>rfl
 |c::l,r,m+1,h=>by
  simp only[Kb];split
  ·exact sD l _ m ia
  ·rfl
theorem sO:∀(l)(r m),(Kb l r m).2=false->Kb l r m=(0,false)
 |l,r,0,h=>by grind [Kb]
 |[],r,m+1,h=>rfl
 |c::l,r,m+1,h=>by
  simp only[Kb]at h⊢;split at h
  ·rename_i a;rw[if_pos a];exact sO l _ m h
  grind
def kY(c:UInt8):(c.toNat&&&192=128) ↔ (128<=c.toNat/\c.toNat<192):=by
 have:=Rk (p:=fun n=>decide ((n&&&192=128) ↔ (128<=n/\n<192))) lc c
 grind
def A6(c:UInt8)(h:128<=c.toNat/\c.toNat<192):c.toNat&&&63=c.toNat - 128:=by
 have:=Rk (p:=fun n=>decide (128<=n/\n<192->n&&&63=n - 128)) lc c
 grind
def Bs(l:ba)(a r i:Nat):St:=⟨[(0,.flat (.string (S l))),(1,.flat (.int .i32 r)),(13,.flat (.int .i64 a)),(14,.flat (.int .i64 i))],[],[],[]⟩
def Pv(q:Nat×Bool):Out×St:=if q.2 then(.exit 0,⟨[(1,.flat (.int .i32 q.1))],[],[],[]⟩)else(.ret,⟨[(6,.flat (.int .i32 0)),(7,.flat (.bool false))],[],[],[]⟩)
def zcC(l)(b)(A:b<=3)(z:b<=l.length)(r)(hr:r<32):Fc (pa (fa code lib) ka Ir) [0,1,13,14] 0 ka (Bs l b r 0)=some (Pv (Kb l r b)):=by
 have:=wh (body:=pa (fa code lib) ka Ir) (live:=[0,1,13,14]) (nb:=0) (fun a:Nat×Nat=>Bs l b a.1 a.2) (fun a=>a.2<=b/\a.1<32* 64^a.2) (fun a=>b - a.2) (fun a=>Pv (Kb (l.drop a.2) a.1 (b - a.2))) (fun⟨r,i⟩ ⟨w,hr⟩=>?_) (n:=ka) (a:=(r,0)) ⟨aa,ia⟩ (by grind [ka])
 ·grind
 dsimp only at w hr⊢;have x:r<8388608:=by
  have:(64:Nat)^i<=64^3:=Jp aa aa;have d:(64:Nat)^3=262144:=ga
  omega
 by_cases ea:i<b
 ·obtain⟨c,t,ht⟩:∃c t,l.drop i=c::t:=⟨l[i],l.drop (i+1),ld aa⟩
  have e1:=JQ ht;have y:=c.toNat_lt;have e2:=XC ht;have e3:=kY c;have e4:Xl .u8 (c.toNat:Int) 192=_:=u8_and c.toNat 192 aa aa;have e5:Xl .u8 (c.toNat:Int) 63=_:=u8_and c.toNat 63 aa aa;have k:b - i=(b - (i+1))+1:=aa
  by_cases d:128<=c.toNat/\c.toNat<192
  ·right
   have e6:=A6 c d;have h:=e3.2 d;rw[h]at e4;rw[e6]at e5;have p:((128:Nat):Int)=128:=rfl;have o:=I1 (r* 64) (c.toNat - 128) aa aa;rw[M7 _ _ aa]at o;refine⟨⟨[(0,.flat (.string (S l))),(1,.flat (.int .i32 (r* 64+(c.toNat - 128):Nat))),(13,.flat (.int .i64 b)),(14,.flat (.int .i64 (i+1:Nat)))],[],[],[]⟩,(r* 64+(c.toNat - 128),i+1),?_,rfl,⟨aa,?_⟩,aa,?_⟩
   ·have g:((i:Int)<b):=aa
    have j:(0:Int)<=i:=aa
    have q:IntKind.i32.wrap ((r:Int)* 2^min 6 32)=((r* 64:Nat):Int):=by rw[wrap32 ia];simp
    have u:IntKind.i64.wrap ((i:Int)+1)=((i+1:Nat):Int):=wrap64 aa;have v:IntKind.i32.wrap ((c.toNat - 128:Nat):Int)=((c.toNat - 128:Nat):Int):=wrap32 aa;simp only[Ir,Bs,go_sem,simprocAttr,g,j,Xc,cc,e1,IntKind.bits,e4,e5,q,u,v,o,p]
   ·grind
   grind [Kb]
  ·left
   have g:((i:Int)<b):=aa
   have j:(0:Int)<=i:=aa
   have h:¬((c.toNat&&&192:Nat):Int)=128:=fun e=>d (e3.1 aa)
   refine⟨.ret,⟨[(6,.flat (.int .i32 0)),(7,.flat (.bool false))],[],[],[]⟩,?_,da,?_⟩
   ·simp only[Ir,Bs,go_sem,simprocAttr,g,j,Xc,cc,e1,IntKind.bits,e4,h]
   ·rw[ht,k];simp only[Kb];rw[if_neg d];rfl
 ·left
  have d:i=b:=aa
  subst d;refine⟨.exit 0,⟨[(1,.flat (.int .i32 r))],[],[],[]⟩,?_,da,by grind [Kb,Pv]⟩;have g:¬((i:Int)<i):=aa
  simp only[Ir,Bs,go_sem,simprocAttr,g]
def zcB(l)(a:Nat)(g:a<=3)(r:Nat)(hr:r<32):fa code lib 275 [.flat (.string (S l)),.flat (.int .i32 r),.flat (.int .i64 a)] [] []=some ([.flat (.int .i32 (Kb l r a).1),.flat (.bool (Kb l r a).2)],false,[],[]):=by
 refine ma jY (qa rfl) ?_;by_cases e:l.length<a
 ·have d:((l.length:Int)<a):=aa
  rw[sD l r a e];exact ta
 ·have d:¬((l.length:Int)<a):=aa
  have b:=zcC (lib:=lib) l a g aa r hr;simp only[Bs,n0]at b;cases c:(Kb l r a).2 with
  |true=>
   simp only[Pv,c,if_true]at b;exact ta
  |false=>
   have h:=sO l r a c;simp only[Pv,c,Fa,if_false]at b;exact ta
def ee(n:Nat):Bool:=decide (n<=1114111)&&(decide (n<55296)||decide (57343<n))
def Ay(n:Nat):fa code lib 227 [.flat (.int .i32 n)] [] []=some ([.flat (.bool (ee n))],false,[],[]):=by
 refine ma hY (qa rfl) ?_;have d:(0:Int)<=n:=aa
 by_cases e:n<=1114111<;>by_cases g:n<55296
 all_goals
  have a:((n:Int)<=1114111)=(n<=1114111):=by apply propext;omega
  have b:((n:Int)<55296)=(n<55296):=by apply propext;omega
  have c:((57343:Int)<n)=(57343<n):=by apply propext;omega
  simp only[go_sem,simprocAttr,ee,d,a,b,c,e,g,lr,Ch]
def bh(r b a:Nat)(l:ba):Nat×Nat:=if(Kb l r a).2=true/\b<=(Kb l r a).1/\ee (Kb l r a).1=true then((Kb l r a).1,a+1)else(65533,1)
def Cb:ba->Nat×Nat
 |[]=>(0,0)
 |c::l=>
  if c.toNat<128 then(c.toNat,1)
  else if 192<=c.toNat/\c.toNat<224 then bh (c.toNat - 192) 128 1 l
  else if 224<=c.toNat/\c.toNat<240 then bh (c.toNat - 224) 2048 2 l
  else if 240<=c.toNat/\c.toNat<248 then bh (c.toNat - 240) 65536 3 l
  else(65533,1)
def Y5(c:UInt8)(h:192<=c.toNat/\c.toNat<224):c.toNat&&&31=c.toNat - 192:=by
 have:=Rk (p:=fun n=>decide (192<=n/\n<224->n&&&31=n - 192)) lc c
 grind
def Z5(c:UInt8)(h:224<=c.toNat/\c.toNat<240):c.toNat&&&15=c.toNat - 224:=by
 have:=Rk (p:=fun n=>decide (224<=n/\n<240->n&&&15=n - 224)) lc c
 grind
def a6(c:UInt8)(h:240<=c.toNat/\c.toNat<248):c.toNat&&&7=c.toNat - 240:=by
 have:=Rk (p:=fun n=>decide (240<=n/\n<248->n&&&7=n - 240)) lc c
 grind
def Sm(l:ba):Prop:=l.length<=1000000000000
theorem E1:∀(l)(r m),r<32->m<=3->(Kb l r m).1<8388608:=by
 have a:∀(m:Nat)(l:ba)(r k:Nat),r<32* 64^k->m+k<=3->(Kb l r m).1<8388608:=by
  intro m
  induction m with
  |zero=>
   grind [Nat,Kb]
  |succ m b=>
   intro l r k hr d;cases l with
   |nil=>simp[Kb]
   |cons c l=>
    simp only[Kb];split
    ·exact b l _ (k+1) aa aa
    ·simp
 exact fun l r m hr e=>a m l r 0 aa aa
def QQ(l)(hs:Sm l)(k)(N:k<=l.length):fa code lib 225 [.flat (.string (S l)),.flat (.int .i64 k)] [] []=some ([.flat (.int .i32 (Cb (l.drop k)).1),.flat (.int .i64 (Cb (l.drop k)).2)],false,[],[]):=by
 unfold Sm at hs;refine ma eY (qa rfl) ?_;have q:¬((k:Int)<0):=aa
 by_cases ea:k<l.length
 ·obtain⟨c,t,ht⟩:∃c t,l.drop k=c::t:=⟨l[k],l.drop (k+1),ld ea⟩
  have e1:=JQ ht;have M:=c.toNat_lt;have e2:=XC ht;have o:¬((l.length:Int)<=k):=aa
  have x:(0:Int)<=k:=aa
  have c1:((c.toNat:Int)<128)=(c.toNat<128):=by apply propext;omega
  have c2:((192:Int)<=c.toNat)=(192<=c.toNat):=by apply propext;omega
  have c3:((c.toNat:Int)<224)=(c.toNat<224):=by apply propext;omega
  have c4:((224:Int)<=c.toNat)=(224<=c.toNat):=by apply propext;omega
  have c5:((c.toNat:Int)<240)=(c.toNat<240):=by apply propext;omega
  have y:((240:Int)<=c.toNat)=(240<=c.toNat):=by apply propext;omega
  have C:((c.toNat:Int)<248)=(c.toNat<248):=by apply propext;omega
  rw[ht];by_cases g:c.toNat<128
  ·have a:IntKind.i32.wrap (c.toNat:Int)=c.toNat:=wrap32 aa
   simp only[go_sem,simprocAttr,Na,Xc,q,o,x,cc,e1,c1,g,a,Cb,n1]
  ·have D:IntKind.i64.wrap ((k:Int)+1)=((k+1:Nat):Int):=wrap64 aa
   have d:(0:Int)<=((k+1:Nat):Int)/\((k+1:Nat):Int)<=l.length:=aa
   have E:(l.take l.length).drop (k+1)=t:=by rw[Eh,e2]
   have fin:∀(r b a:Nat),r<32->a<=3->
    (bh r b a t=((Kb t r a).1,a+1)/\(Kb t r a).2=true/\b<=(Kb t r a).1/\ee (Kb t r a).1=true)\/(bh r b a t=(65533,1)/\((Kb t r a).2=false\/(Kb t r a).2=true/\(¬b<=(Kb t r a).1\/b<=(Kb t r a).1/\ee (Kb t r a).1=false))):=fun r b a _ _=>by
    grind [bh]
   have I:∀(r b a:Nat),r<32->a<=3->fa code lib 275 [.flat (.string (S t)),.flat (.int .i32 r),.flat (.int .i64 a)] [] []=_:=fun r _ a hr L=>zcB (lib:=lib) t a L r hr
   by_cases J:192<=c.toNat/\c.toNat<224
   ·have z:Xl .u8 (c.toNat:Int) 31=((c.toNat - 192:Nat):Int):=by rw[<-Y5 c J];exact u8_and c.toNat 31 aa aa
    have B:IntKind.i32.wrap ((c.toNat - 192:Nat):Int)=((c.toNat - 192:Nat):Int):=wrap32 aa;have p:=I (c.toNat - 192) 128 1 aa aa;have G:=Ay (lib:=lib) (Kb t (c.toNat - 192) 1).1;rw[n1]at p;have H:Cb (c::t)=bh (c.toNat - 192) 128 1 t:=by
     simp only[Cb];rw[if_neg g,if_pos J]
    have lt:(((Kb t (c.toNat - 192) 1).1:Int)<128)=¬(128<=(Kb t (c.toNat - 192) 1).1):=by apply propext;omega
    have A:(192<=c.toNat)=True:=Sa
    have u:(c.toNat<224)=True:=Sa
    have i:(224<=c.toNat)=False:=Sa
    have v:(c.toNat<240)=True:=Sa
    have h:(240<=c.toNat)=False:=Sa
    have w:(c.toNat<248)=True:=Sa
    rw[H];rcases fin (c.toNat - 192) 128 1 aa aa with⟨j,e,n,F⟩|⟨j,e|⟨e,n|⟨n,F⟩⟩⟩
    ·rw[j];simp only[go_sem,simprocAttr,Na,Xc,Tg,q,o,x,cc,e1,c1,c2,c3,c4,c5,y,C,g,A,u,i,v,h,w,z,D,d.1,d.2,E,B,p,e,lt,n,G,F,n2,n3,n4,er,gr,Dt]
    ·rw[j];simp only[go_sem,simprocAttr,Na,Xc,Tg,q,o,x,cc,e1,c1,c2,c3,c4,c5,y,C,g,A,u,i,v,h,w,z,D,d.1,d.2,E,B,p,e,n1,Hi]
    ·rw[j];simp only[go_sem,simprocAttr,Na,Xc,Tg,q,o,x,cc,e1,c1,c2,c3,c4,c5,y,C,g,A,u,i,v,h,w,z,D,d.1,d.2,E,B,p,e,lt,n,n1,Hi]
    ·rw[j];simp only[go_sem,simprocAttr,Na,Xc,Tg,q,o,x,cc,e1,c1,c2,c3,c4,c5,y,C,g,A,u,i,v,h,w,z,D,d.1,d.2,E,B,p,e,lt,n,G,F,n1,Hi]
   by_cases a3:224<=c.toNat/\c.toNat<240
   ·have z:Xl .u8 (c.toNat:Int) 15=((c.toNat - 224:Nat):Int):=by rw[<-Z5 c a3];exact u8_and c.toNat 15 aa aa
    have B:IntKind.i32.wrap ((c.toNat - 224:Nat):Int)=((c.toNat - 224:Nat):Int):=wrap32 aa;have p:=I (c.toNat - 224) 2048 2 aa aa;have G:=Ay (lib:=lib) (Kb t (c.toNat - 224) 2).1;rw[n2]at p;have H:Cb (c::t)=bh (c.toNat - 224) 2048 2 t:=by
     simp only[Cb];rw[if_neg g,if_neg aa,if_pos a3]
    have lt:(((Kb t (c.toNat - 224) 2).1:Int)<2048)=¬(2048<=(Kb t (c.toNat - 224) 2).1):=by apply propext;omega
    have A:(192<=c.toNat)=True:=Sa
    have u:(c.toNat<224)=False:=Sa
    have i:(224<=c.toNat)=True:=Sa
    have v:(c.toNat<240)=True:=Sa
    have h:(240<=c.toNat)=False:=Sa
    have w:(c.toNat<248)=True:=Sa
    rw[H];rcases fin (c.toNat - 224) 2048 2 aa aa with⟨j,e,n,F⟩|⟨j,e|⟨e,n|⟨n,F⟩⟩⟩
    ·rw[j];simp only[go_sem,simprocAttr,Na,Xc,Tg,q,o,x,cc,e1,c1,c2,c3,c4,c5,y,C,g,A,u,i,v,h,w,z,D,d.1,d.2,E,B,p,e,lt,n,G,F,n2,n3,n4,er,gr,Dt]
    ·rw[j];simp only[go_sem,simprocAttr,Na,Xc,Tg,q,o,x,cc,e1,c1,c2,c3,c4,c5,y,C,g,A,u,i,v,h,w,z,D,d.1,d.2,E,B,p,e,n1,Hi]
    ·rw[j];simp only[go_sem,simprocAttr,Na,Xc,Tg,q,o,x,cc,e1,c1,c2,c3,c4,c5,y,C,g,A,u,i,v,h,w,z,D,d.1,d.2,E,B,p,e,lt,n,n1,Hi]
    ·rw[j];simp only[go_sem,simprocAttr,Na,Xc,Tg,q,o,x,cc,e1,c1,c2,c3,c4,c5,y,C,g,A,u,i,v,h,w,z,D,d.1,d.2,E,B,p,e,lt,n,G,F,n1,Hi]
   by_cases a4:240<=c.toNat/\c.toNat<248
   ·have z:Xl .u8 (c.toNat:Int) 7=((c.toNat - 240:Nat):Int):=by rw[<-a6 c a4];exact u8_and c.toNat 7 aa aa
    have B:IntKind.i32.wrap ((c.toNat - 240:Nat):Int)=((c.toNat - 240:Nat):Int):=wrap32 aa;have p:=I (c.toNat - 240) 65536 3 aa aa;have G:=Ay (lib:=lib) (Kb t (c.toNat - 240) 3).1;rw[n3]at p;have H:Cb (c::t)=bh (c.toNat - 240) 65536 3 t:=by
     simp only[Cb];rw[if_neg g,if_neg aa,if_neg aa,if_pos a4]
    have lt:(((Kb t (c.toNat - 240) 3).1:Int)<65536)=¬(65536<=(Kb t (c.toNat - 240) 3).1):=by apply propext;omega
    have A:(192<=c.toNat)=True:=Sa
    have u:(c.toNat<224)=False:=Sa
    have i:(224<=c.toNat)=True:=Sa
    have v:(c.toNat<240)=False:=Sa
    have h:(240<=c.toNat)=True:=Sa
    have w:(c.toNat<248)=True:=Sa
    rw[H];rcases fin (c.toNat - 240) 65536 3 aa aa with⟨j,e,n,F⟩|⟨j,e|⟨e,n|⟨n,F⟩⟩⟩
    ·rw[j];simp only[go_sem,simprocAttr,Na,Xc,Tg,q,o,x,cc,e1,c1,c2,c3,c4,c5,y,C,g,A,u,i,v,h,w,z,D,d.1,d.2,E,B,p,e,lt,n,G,F,n2,n3,n4,er,gr,Dt]
    ·rw[j];simp only[go_sem,simprocAttr,Na,Xc,Tg,q,o,x,cc,e1,c1,c2,c3,c4,c5,y,C,g,A,u,i,v,h,w,z,D,d.1,d.2,E,B,p,e,n1,Hi]
    ·rw[j];simp only[go_sem,simprocAttr,Na,Xc,Tg,q,o,x,cc,e1,c1,c2,c3,c4,c5,y,C,g,A,u,i,v,h,w,z,D,d.1,d.2,E,B,p,e,lt,n,n1,Hi]
    ·rw[j];simp only[go_sem,simprocAttr,Na,Xc,Tg,q,o,x,cc,e1,c1,c2,c3,c4,c5,y,C,g,A,u,i,v,h,w,z,D,d.1,d.2,E,B,p,e,lt,n,G,F,n1,Hi]
   have H:Cb (c::t)=(65533,1):=by
    simp only[Cb];rw[if_neg g,if_neg J,if_neg a3,if_neg a4]
   rw[H];have h:(240<=c.toNat/\c.toNat<248)=False:=Sa
   by_cases K:192<=c.toNat
   ·have u:¬c.toNat<224:=aa
    have i:224<=c.toNat:=aa
    have v:¬c.toNat<240:=aa
    have h:240<=c.toNat:=aa
    have w:¬c.toNat<248:=aa
    simp only[go_sem,simprocAttr,Na,Xc,q,o,x,cc,e1,c1,c2,c3,c4,c5,y,C,g,K,u,i,v,h,w,n1,Hi]
   ·have i:¬224<=c.toNat:=aa
    have h:¬240<=c.toNat:=aa
    simp only[go_sem,simprocAttr,Na,Xc,q,o,x,cc,e1,c1,c2,c4,y,g,K,i,h,n1,Hi]
 ·have a:k=l.length:=aa
  subst a;have o:((l.length:Int)<=l.length):=aa
  simp only[go_sem,simprocAttr,Na,q,o,Kp,Cb,n0]
def Xg(n:Nat):List Nat:=
 if n<128 then[n]
 else if n<2048 then[192+n/64,128+n % 64]
 else if n<65536 then[224+n/4096,128+n/64 % 64,128+n % 64]
 else[240+n/262144,128+n/4096 % 64,128+n/64 % 64,128+n % 64]
def ob(n:Nat):ba:=(Xg (if ee n then n else 65533)).map UInt8.ofNat
def I7(x)(h:x<64):128|||x=128+x:=by
 have:=Rk (p:=fun n=>decide (n<64->128|||n=128+n)) lc (UInt8.ofNat x);have a:(UInt8.ofNat x).toNat=x:=Sa
 grind
def J7(x)(h:x<32):192|||x=192+x:=by
 have:=Rk (p:=fun n=>decide (n<32->192|||n=192+n)) lc (UInt8.ofNat x);have a:(UInt8.ofNat x).toNat=x:=Sa
 grind
def K7(x)(h:x<16):224|||x=224+x:=by
 have:=Rk (p:=fun n=>decide (n<16->224|||n=224+n)) lc (UInt8.ofNat x);have a:(UInt8.ofNat x).toNat=x:=Sa
 grind
def L7(x)(h:x<8):240|||x=240+x:=by
 have:=Rk (p:=fun n=>decide (n<8->240|||n=240+n)) lc (UInt8.ofNat x);have a:(UInt8.ofNat x).toNat=x:=Sa
 grind
def Ul(n:Nat)(h:n<2147483648):Xl .i32 (n:Int) 63=((n % 64:Nat):Int):=by
 have a:=H1 n 63 h aa;have b:=Pt n 6
 grind
def Tv(n:Nat):(n:Int).fdiv (2^(min 6 32))=((n/64:Nat):Int):=by
 grind
def Hv(x:Nat)(h:x<64):Pk .u8 128 (x:Int)=((128+x:Nat):Int):=by rw[<-I7 x h];exact u8_or 128 x aa aa
def sh1:IntKind.u8.wrap (255* 2^min 6 8)=192:=ga
def XS:IntKind.u8.wrap (255* 2^min 5 8)=224:=ga
def sh3:IntKind.u8.wrap (255* 2^min 4 8)=240:=ga
def qC(n:Nat)(u:n<2147483648):fa code lib 159 [.flat (.int .i32 n)] [] []=some ([.flat (.string (S (ob n)))],false,[],[]):=by
 refine ma dY (qa rfl) ?_;have b:=Ay (lib:=lib) n;cases g:ee n with
 |true=>
  rw[g]at b;have t:n<=1114111:=by simp only[ee,Vc,decide_eq_true_eq]at g;exact g.1
  have c1:((65536:Int)<=n)=(65536<=n):=by apply propext;omega
  have c2:((2048:Int)<=n)=(2048<=n):=by apply propext;omega
  have c3:((128:Int)<=n)=(128<=n):=by apply propext;omega
  have a0:=Ul n u;have j:=Ul (n/64) aa;have r:=Ul (n/64/64) aa;have i:=Tv n;have s1:=Tv (n/64);have w:=Tv (n/64/64);have h:=Hv (n % 64) aa;have l:=Hv (n/64 % 64) aa;have v:=Hv (n/64/64 % 64) aa;have v0:IntKind.u8.wrap ((n % 64:Nat):Int)=((n % 64:Nat):Int):=Mj aa;have p:IntKind.u8.wrap ((n/64 % 64:Nat):Int)=((n/64 % 64:Nat):Int):=Mj aa;have q:IntKind.u8.wrap ((n/64/64 % 64:Nat):Int)=((n/64/64 % 64:Nat):Int):=Mj aa;simp only[ob,g,if_true];by_cases o:65536<=n
  ·have k:2048<=n:=aa
   have e:128<=n:=aa
   have c:IntKind.u8.wrap ((n/64/64/64:Nat):Int)=((n/64/64/64:Nat):Int):=Mj aa;have d:Pk .u8 240 ((n/64/64/64:Nat):Int)=((240+n/64/64/64:Nat):Int):=by rw[<-L7 _ aa];exact u8_or 240 _ aa aa
   have a:Xg n=[240+n/64/64/64,128+n/64/64 % 64,128+n/64 % 64,128+n % 64]:=by
    unfold Xg;rw[if_neg aa,if_neg aa,if_neg aa];simp only[Nat.div_div_eq_div_mul]
   rw[a];simp(disch:=omega) only[go_sem,simprocAttr,b,c1,c2,c3,o,k,e,CA,er,gr,Dt,BA,pd,tc,Iz,Gc,Sc,a0,j,r,i,s1,w,h,l,v,v0,p,q,c,d,sh3,IntKind.bits,Oo,Po,Ge,kc,Bf]
  ·by_cases k:2048<=n
   ·have e:128<=n:=aa
    have c:IntKind.u8.wrap ((n/64/64:Nat):Int)=((n/64/64:Nat):Int):=Mj aa;have d:Pk .u8 224 ((n/64/64:Nat):Int)=((224+n/64/64:Nat):Int):=by rw[<-K7 _ aa];exact u8_or 224 _ aa aa
    have a:Xg n=[224+n/64/64,128+n/64 % 64,128+n % 64]:=by
     unfold Xg;rw[if_neg aa,if_neg aa,if_pos aa];simp only[Nat.div_div_eq_div_mul]
    rw[a];simp(disch:=omega) only[go_sem,simprocAttr,b,c1,c2,c3,o,k,e,CA,er,gr,Dt,YH,BA,pd,tc,Iz,Gc,Sc,a0,j,i,s1,h,l,v0,p,c,d,XS,IntKind.bits,Oo,Po,Ge,kc,Bf]
   ·by_cases e:128<=n
    ·have c:IntKind.u8.wrap ((n/64:Nat):Int)=((n/64:Nat):Int):=Mj aa
     have d:Pk .u8 192 ((n/64:Nat):Int)=((192+n/64:Nat):Int):=by rw[<-J7 _ aa];exact u8_or 192 _ aa aa
     have a:Xg n=[192+n/64,128+n % 64]:=by
      unfold Xg;rw[if_neg aa,if_pos aa]
     rw[a];simp(disch:=omega) only[go_sem,simprocAttr,b,c1,c2,c3,o,k,e,CA,er,gr,Dt,YH,zdP,BA,pd,tc,Iz,Gc,Sc,a0,i,h,v0,c,d,sh1,IntKind.bits,Oo,Po,Ge,kc,Bf]
    ·have c:IntKind.u8.wrap (n:Int)=(n:Int):=Mj aa
     have a:Xg n=[n]:=by unfold Xg;rw[if_pos aa]
     rw[a];simp(disch:=omega) only[go_sem,simprocAttr,b,c1,c2,c3,o,k,e,c,Oo,Po,Ge,kc,Bf]
 |false=>
  rw[g]at b;have a:ob n=[239,191,189]:=by unfold ob;rw[g];simp only[Fa,if_false];decide
  rw[a];have a0:=Ul 65533 aa;have j:=Ul (65533/64) aa;have i:=Tv 65533;have s1:=Tv (65533/64);have h:=Hv (65533 % 64) aa;have l:=Hv (65533/64 % 64) aa;have v0:IntKind.u8.wrap 61=61:=ga
  have p:IntKind.u8.wrap 63=63:=ga
  have q:IntKind.u8.wrap 15=15:=ga
  have d:Pk .u8 224 15=239:=ga
  simp only[JA,Nat.reduceDiv,Nat.reduceMod,Nat.reduceAdd]at a0 j i s1 h l;have c:bytesOf [.flat (.int .u8 239),.flat (.int .u8 191),.flat (.int .u8 189)]=some [239,191,189]:=ga
  simp only[go_sem,simprocAttr,b,CA,er,gr,YH,BA,pd,tc,Iz,Gc,Sc,a0,j,i,s1,h,l,v0,p,q,d,XS,IntKind.bits,c,Ge]
theorem Wr(c)(l:ba):1<=(Cb (c::l)).2/\(Cb (c::l)).2<=4:=by
 grind [bh,Cb]
def br:Nat->ba->List (Nat×Nat)
 |0,_=>[]
 |_+1,[]=>[]
 |n+1,c::l=>Cb (c::l)::br n ((c::l).drop (Cb (c::l)).2)
def We(l:ba):List (Nat×Nat):=br l.length l
theorem R_:∀(n)(l),l.length<=n->br n l=We l:=by
 have a:∀(n m:Nat)(l:ba),l.length<=n->l.length<=m->br n l=br m l:=by
  intro n
  induction n with
  |zero=>intro m l b d;have:l=[]:=qz aa;subst this;cases m<;>rfl
  |succ n e=>
   intro m l b d;cases l with
   |nil=>grind
   |cons c l=>
    cases m<;>grind [Wr,br]
 exact fun n l h=>a n _ l h (la _)
theorem rH:We []=[]:=rfl
theorem dA(c)(l:ba):We (c::l)=Cb (c::l)::We ((c::l).drop (Cb (c::l)).2):=by
 grind [Wr,We.eq_1,br.eq_3,R_]
theorem gN:∀(l),(Cb l).2<=l.length:=by
 have a:∀(l:ba)(r m:Nat),(Kb l r m).2=true->m<=l.length:=fun l r m h=>by
  grind [sD]
 intro l;cases l<;>grind [Cb,bh]
theorem Qx:∀(l),(Cb l).1<8388608:=by
 intro l;cases l<;>grind [Cb,bh,E1]
def eB{α}(l)(hs:Sm l)(BX:α->Ha)(oc:α->List (Nat×Nat))(step)(I:α->Nat->Prop)(b p nb)(v:∀a k,I a k->(BX a)[p]?=some (9,[.flat (.string (S l))]))(e:∀a,(BX a).length=nb)(r:∀a,∀q∈oc a,q.1<nb)
 (C:∀a k q,I a k->k<l.length->Cb (l.drop k)=q->1<=q.2->k+q.2<=l.length->(step a q).2=true->I (step a q).1 (k+q.2))
 (D:∀a k q,I a k->k<l.length->Cb (l.drop k)=q->k+q.2<=l.length->q.1<8388608->q.2<=4->fa code lib hb [.Ma b,.flat (.int .i32 (q.1:Nat)),.flat (.int .i64 (q.2:Nat))] (BX a) (cl (oc a))=some ([.flat (.bool (step a q).2)],false,BX (step a q).1,cl (oc (step a q).1))) (a) (u:I a 0):
 fa code lib 224 [.Ma b,.ptr p 0] (BX a) (cl (oc a))=some ([],false,BX (Se step a (We l)).1,cl (oc (Se step a (We l)).1)):=by
 refine ma gY (qa rfl) ?_
 have d:=wh (body:=pa (fa code lib) ka WB) (live:=[0,1,3]) (nb:=nb) (fun q:α×Nat=>(⟨[(0,.Ma b),(1,.ptr p 0),(3,.flat (.int .i64 (q.2:Nat)))],cl (oc q.1),[],BX q.1⟩:St)) (fun q=>I q.1 q.2/\q.2<=l.length) (fun q=>l.length - q.2)
  (fun q=>(if(Se step q.1 (We (l.drop q.2))).2 then .exit 0 else .ret,⟨[],cl (oc (Se step q.1 (We (l.drop q.2))).1),[],BX (Se step q.1 (We (l.drop q.2))).1⟩)) (fun⟨a,k⟩ ⟨u,A⟩=>?_) (n:=ka) (a:=(a,0)) ⟨u,Za _⟩ (by grind [Sm,ka])
 ·have j:=e a
  have o:=e (Se step a (We l)).1;have bl:((0:Nat):Int)=0:=rfl;simp only[Af,bl]at d;by_cases g:(Se step a (We l)).2=true
  ·simp only[g,if_true]at d
   simp only[go_sem,simprocAttr,xb,cb,wb,pb,Mc j,j,db _ (r _),d,o,Mc o]
  ·simp only[g,Fa,if_false]at d
   simp only[go_sem,simprocAttr,xb,cb,wb,pb,Mc j,j,db _ (r _),d,o,Mc o]
 ·unfold Sm at hs
  dsimp only at u A⊢;have z:=v a k u;have j:=e a;have F:(0:Int)<=k:=aa
  have e1:=QQ (lib:=lib) l hs k A;by_cases ea:k<l.length
  ·obtain⟨c,t,ht⟩:∃c t,l.drop k=c::t:=⟨l[k],l.drop (k+1),ld ea⟩
   have y:((k:Int)<l.length):=aa
   have i:=Wr c t;have w:=gN (l.drop k);rw[Ya]at w;have x:(Cb (l.drop k)).1<8388608:=Qx _;have hr:We (l.drop k)=Cb (l.drop k)::We (l.drop (k+(Cb (l.drop k)).2)):=by
    rw[<-rf,ht,dA]
   rw[<-ht]at i;have h:=D a k (Cb (l.drop k)) u ea rfl aa x i.2;obtain⟨q,B⟩:∃q,Cb (l.drop k)=q:=⟨_,rfl⟩;rw[B]at e1 h hr w i;rw[hr];have o:=e (step a q).1;have E:IntKind.i64.wrap ((k:Int)+(q.2:Nat))=((k+q.2:Nat):Int):=wrap64 aa;simp only[Se];by_cases g:(step a q).2=true
   ·right
    rw[g]at h;refine⟨⟨[(0,.Ma b),(1,.ptr p 0),(3,.flat (.int .i64 ((k+q.2:Nat):Int)))],cl (oc (step a q).1),[],BX (step a q).1⟩,((step a q).1,k+q.2),?_,?_,⟨C a k q u ea B i.1 aa g,aa⟩,aa,?_⟩
    ·simp only[IG,go_sem,simprocAttr,xb,cb,wb,pb,Bb,z,Na,y,e1,h,E,j,o,ic]
    ·simp only[go_sem,simprocAttr,xb,cb,Mc o,o,db _ (r _)]
    simp_all
   ·left
    have g:(step a q).2=false:=by simpa using g
    rw[g]at h;refine⟨.ret,⟨[],cl (oc (step a q).1),[],BX (step a q).1⟩,?_,da,?_⟩
    ·simp only[IG,go_sem,simprocAttr,xb,cb,wb,pb,Bb,z,Na,y,e1,h,j,ic]
    grind
  ·left
   have g:k=l.length:=aa
   subst g;have y:¬((l.length:Int)<l.length):=aa
   refine⟨.exit 0,⟨[],cl (oc a),[],BX a⟩,?_,da,?_⟩
   ·simp only[IG,go_sem,simprocAttr,xb,cb,wb,pb,Bb,z,Na,y,j]
   grind [rH,Se]
def cB(l)(bx)(oc)(h:∀q∈oc,q.1<bx.length):fa code lib 155 [.flat (.string (S l))] bx (cl oc)=some ([.fb 224 [.ptr bx.length 0]],false,bx++[(9,[.flat (.string (S l))])],cl oc):=by
 refine ma fY (qa rfl) ?_;have b:∀q∈oc,q.1<(bx++[(9,[PV.flat (.string (S l))])]).length:=fun q a=>by have:=h q a;simp;omega
 have c:¬(bx.length+1=bx.length):=aa
 have d:Nb (bx.length+1) (cl oc)=cl oc:=db _ fun q a=>by grind
 exact Rc @Ja.{0} @Nat.lt_irrefl
def dB(l)(bx):fa code lib 155 [.flat (.string (S l))] bx []=some ([.fb 224 [.ptr bx.length 0]],false,bx++[(9,[.flat (.string (S l))])],[]):=cB l bx [] da
def Dg(q:Nat×Nat):Bool:=decide (q.1=65533/\q.2=1)
def ni(l:ba):Bool:=(We l).all fun q=>!Dg q
def bo(a:Bool)(q:Nat×Nat):Bool×Bool:=if Dg q then(true,false)else(a,true)
def Mo(l:ba)(a:Bool):Ha:=[(4,[.flat (.bool false)]),(9,[.flat (.string (S l))]),(0,[.lp 92 0 (if a then .done .ret else .ready) [2] [.ptr 0 0]])]
def foldI(L):Se bo false L=(!(L.all fun q=>!Dg q),L.all fun q=>!Dg q):=by
 induction L<;>grind [Se,bo]
def F2(l)(q)(d:q.1<8388608)(e:q.2<=4):fa code lib hb [.Ma 2,.flat (.int .i32 (q.1:Nat)),.flat (.int .i64 (q.2:Nat))] (Mo l false) []=some ([.flat (.bool (bo false q).2)],false,Mo l (bo false q).1,[]):=by
 refine fs Rr JM rfl rfl rfl ?_;by_cases c1:q.1=65533
 ·have a:((q.1:Nat):Int)=65533:=aa
  by_cases c2:q.2=1
  ·have b:((q.2:Nat):Int)=1:=aa
   have c:Dg q=true:=by simp[Dg,c1,c2]
   simp only[vy,qy,Mo,bo,c,a,b,go_sem,simprocAttr]
  ·have b:¬((q.2:Nat):Int)=1:=aa
   have c:Dg q=false:=by simp[Dg,c2]
   simp only[vy,qy,Mo,bo,c,a,b,go_sem,simprocAttr]
 ·have a:¬((q.1:Nat):Int)=65533:=aa
  have c:Dg q=false:=by simp[Dg,c1]
  simp only[vy,qy,Mo,bo,c,a,go_sem,simprocAttr]
def fP(l)(hs:Sm l):fa code lib 92 [.flat (.string (S l))] [] []=some ([.flat (.bool (ni l))],false,[],[]):=by
 refine ma JM (qa rfl) ?_;have b:=eB (lib:=lib) l hs (Mo l) (fun _=>[]) bo (fun a _=>a=false) 2 1 3 (fun a _ _=>rfl) (fun a=>rfl) (fun a q i=>by cases i) (fun a k q d _ _ _ _ j=>by
  grind [bo]) (fun a k q d _ _ _ g h=>by subst d;exact F2 l q g h) false rfl
 rw[foldI]at b;simp only[kq]at b;have n:=fun bx=>dB (lib:=lib) l bx
 cases e:ni l with
 |true=>
  have c:((We l).all fun q=>!Dg q)=true:=e;simp only[c,Mo,Ui,Fa,if_false]at b;exact ta
 |false=>
  have c:((We l).all fun q=>!Dg q)=false:=e;simp only[c,Mo,Gj,Fa,if_false,if_true]at b;exact ta
def vf(l:List Nat):List PV:=l.map fun r=>.flat (.int .i32 (r:Nat))
def dH{l}:(vf l).length=l.length:=by simp[vf]
theorem g_{a b}:vf a++vf b=vf (a++b):=by simp[vf]
theorem fS:∀a,Ad (vf a)=true
 |[]=>rfl
 |c::a=>by show Ad (.flat (.int .i32 (c:Nat))::vf a)=true;rw[Ev,fS a];rfl
theorem eS{n}:∀a,La n (vf a)=true
 |[]=>rfl
 |c::a=>by show La n (.flat (.int .i32 (c:Nat))::vf a)=true;simp only[La,PV.low,eS a,pc]
def Mr(l:ba)(out:List Nat):Ha:=[(278,[.ha out.length (vf out)]),(9,[.flat (.string (S l))]),(0,[.lp 231 0 .ready [3] [.ptr 0 0]])]
def rA(out:List Nat)(q:Nat×Nat):List Nat×Bool:=(out++[q.1],true)
theorem cO:∀(L)(out),Se rA out L=(out++L.map (·.1),true)
 |[],out=>by simp[Se]
 |q::L,out=>by simp only[Se,rA,if_true];rw[cO L];simp
def T_(l)(out)(q:Nat×Nat)(c:out.length<4294967296):fa code lib hb [.Ma 2,.flat (.int .i32 (q.1:Nat)),.flat (.int .i64 (q.2:Nat))] (Mr l out) [.cell 0 0]=some ([.flat (.bool true)],false,Mr l (out++[q.1]),[.cell 0 0]):=by
 refine fs Rr KM rfl rfl rfl ?_;have a:out.length+1<=Da:=Me
 have b:[PV.flat (.int .i32 (q.1:Nat))]=vf [q.1]:=rfl;simp only[AO,pO,Mr,go_sem,simprocAttr,dH,fS,a,Nat.mul_one]
 grind [g_]
def Ng(l:ba):List Nat:=(We l).map (·.1)
def S_(l)(hs:l.length<4294967296):fa code lib 231 [.flat (.string (S l))] [] []=some ([.ha (Ng l).length (vf (Ng l))],false,[],[]):=by
 refine ma KM (qa rfl) ?_;have b:=eB (lib:=lib) l (by grind [Sm]) (Mr l) (fun _=>[(0,0)]) rA (fun out k=>out.length<=k) 2 1 3 (fun a _ _=>rfl) (fun a=>rfl) (fun a q n=>by grind) (fun a k q i _ _ g _ _=>by grind [rA]) (fun a k q i j _ g _ _=>T_ l a q aa) [] (Za _);rw[cO]at b;have e:cl [(0,0)]=[.cell 0 0]:=rfl;simp only[e,Gb]at b;have d:=fun bx h=>cB (lib:=lib) l bx [(0,0)] h
 simp only[e]at d;have c:fa code lib 224 [.Ma 2,.ptr 1 0] [(278,[.ha 0 []]),(9,[.flat (.string (S l))]),(0,[.lp 231 0 .ready [3] [.ptr 0 0]])] [.cell 0 0]=some ([],false,Mr l (Ng l),[.cell 0 0]):=b;have e1:=d [(278,[.ha 0 []])] da;simp only[go_sem,simprocAttr]at e1;have e2:=dB (lib:=lib) l [];simp only[go_sem,simprocAttr]at e2;exact Rc @Mr.eq_1 @eS
end wa
namespace Go.Proofs.YtglaihdcndcmkaaGreatDoor
def eT:(Tryz.prog.info? 101).map (·.size)=some 2:=ca
set_option maxRecDepth 100000 in
def wW(b o)(w)(c:w.cell? ⟨b,o,none⟩=some (.pointer (some ⟨b,o,none⟩))):
 Calls Tryz.prog 93 #[.pointer (some ⟨b,o,none⟩)] w fun e w'=>e=.returned (.tuple #[])/\w'=w:=by
 obtain⟨j,a,_⟩:=qm eT
 go_enter Tryz.func93,Tryz.ntmps93
 go_wp2;rw[Lib.run_neq_ptr_same w _ Tryz.underlying98 a];go_wp2
 go_end0
 simp
set_option maxRecDepth 100000 in
def uW(b o e cells:Nat)(w:World)(l:w.cell? ⟨b,o,none⟩=some (.pointer none))(a:w.shape? b=some (e,cells))(k:o<cells)(i:liesAt Tryz.prog Tryz.prog.depth e (cells/Tryz.prog.cellsOf e) o 101 1=true)(h:w.frozen? ⟨b,o,none⟩=false):
 Calls Tryz.prog 93 #[.pointer (some ⟨b,o,none⟩)] w fun e w'=>e=.returned (.tuple #[])/\w'=w.setCell ⟨b,o,none⟩ (.pointer (some ⟨b,o,none⟩)):=by
 obtain⟨j,d,c⟩:=qm eT;have g:(w.setCell ⟨b,o,none⟩ (.pointer (some ⟨b,o,none⟩))).cell? ⟨b,o,none⟩=some (.pointer (some ⟨b,o,none⟩)):=World.cell?_setCell_same' _ _ _ ia
 go_enter Tryz.func93,Tryz.ntmps93
 go_wp2;rw[Lib.run_to_unsafe w ⟨b,o,none⟩ Tryz.underlying98 Tryz.underlying230 d (by rw[c];decide) a k];simp only[Result.andThen];rw[Qt];go_wp2;rw[run_callFunc_extern Tryz.func156 ca ca ca (e:=Extern.AbiNoEscape.same) ca];rw[Lib.run_noEscape];simp only[Result.andThen];rw[Qt];go_wp2;rw[Lib.run_from_unsafe w ⟨b,o,none⟩ Tryz.underlying230 Tryz.underlying98 d a i];simp only[Result.andThen];rw[Qt];go_wp2
 go_end0
 simp
def cu(w:World)(g n:Nat)(w':World):Prop:=w'.heap=(w.freeze ⟨g,0,none⟩ n).heap/\w'.os=w.os/\w'.tape=w.tape/\w'.output=w.output
set_option maxRecDepth 100000 in
def zbS(b o g a cells)(l)(w)(k:l≠[])(d:a≠0)(i:w.cell? ⟨b,o+1,none⟩=some (.slice (some ⟨g,0,none⟩) l.length a))(h:w.shape? g=some (5,cells))(q:l.length<=cells)(hmx:l.length<=maxLen)(c:∀j x,l[j]?=some x->w.cell? ((⟨g,0,none⟩:Addr).add j)=some (.int .u8 x.toNat)):
 Calls Tryz.prog 46 #[.pointer (some ⟨b,o,none⟩)] w fun e w'=>e=.returned (.string ⟨l.toArray⟩)/\cu w g l.length w':=by
 have c1:=i;have n:(Builtin.unsafeSliceData_ #[99] 170 #[.slice (some ⟨g,0,none⟩) l.length a]).run Tryz.prog w.drew=.ok (.pointer (some ⟨g,0,none⟩)) w.drew:=
  Lib.run_unsafeSliceData_row _ _ _ _ _ _ d
 have p:(Builtin.unsafeString_ #[170,3] 9 #[.pointer (some ⟨g,0,none⟩),.int .i64 l.length]).run Tryz.prog w.drew=.ok (.string ⟨l.toArray⟩) (w.drew.freeze ⟨g,0,none⟩ l.length):=
  Lib.run_unsafeString_row w.drew 170 3 9 5 Tryz.underlying170 ca g cells h l k q (by unfold maxLen at hmx;omega) c
 have r:cu w g l.length (w.drew.freeze ⟨g,0,none⟩ l.length):=by
  refine⟨?_,?_,?_,?_⟩<;>unfold World.freeze<;>(have:w.drew.heap=w.heap:=rfl)<;>rw[this]<;>split<;>rfl
 have mixed:=Tryz.checked.mixed
 go_enter Tryz.func46,Tryz.ntmps46
 go_wp2
 go_region_o
 all_goals (go_wp2;go_ret;simp_all)
set_option maxRecDepth 100000 in
def zbQ(b o)(w)(a:w.cell? ⟨b,o+1,none⟩=some (.slice none 0 0)):
 Calls Tryz.prog 46 #[.pointer (some ⟨b,o,none⟩)] w fun e w'=>e=.returned (.string ⟨#[]⟩)/\Below w.heap.size w w':=by
 have c1:=a;have d:=fun(W:World)(q:Option Addr)=>Lib.run_unsafeString_none (P:=Tryz.prog) W 170 3 9 q
 have c:(Builtin.unsafeSliceData_ #[99] 170 #[.slice none 0 0]).run Tryz.prog w.drew=.ok (.pointer none) w.drew:=rfl;have mixed:=Tryz.checked.mixed
 go_enter Tryz.func46,Tryz.ntmps46
 go_wp2
 go_region_o
 all_goals (go_wp2;go_ret;exact⟨rfl,Below.drew (Below.refl _ w)⟩)
set_option maxRecDepth 100000 in
def zbT(b o g e cells:Nat)(w:World)(c:w.cell? ⟨b,o+1,none⟩=some (.slice (some ⟨g,0,none⟩) 0 0))(ea:b<w.heap.size)(a:w.shape? g=some (e,cells)):
 Calls Tryz.prog 46 #[.pointer (some ⟨b,o,none⟩)] w fun e w'=>e=.returned (.string ⟨#[]⟩)/\Below w.heap.size w w':=by
 have h:=fun(W:World)(q:Option Addr)=>Lib.run_unsafeString_none (P:=Tryz.prog) W 170 3 9 q
 have c1:=c;have d:(Builtin.unsafeSliceData_ #[99] 170 #[.slice (some ⟨g,0,none⟩) 0 0]).run Tryz.prog w.drew=.ok (.pointer (some ⟨w.drew.heap.size,0,none⟩)) (w.drew.alloc (.view ⟨g,0,none⟩ 5)):=
  Lib.run_unsafeSliceData_zero w.drew _ _ 5 Tryz.underlying170 ⟨g,0,none⟩ 0 (e,cells) a
 have c2:(w.drew.alloc (.view ⟨g,0,none⟩ 5)).cell? ⟨b,o+1,none⟩=some (.slice (some ⟨g,0,none⟩) 0 0):=by
  have i:(w.drew.alloc (.view ⟨g,0,none⟩ 5)).heap[b]?=w.heap[b]?:=Lib.alloc_old w.drew _ b ea;rw[<-c];simp only[World.cell?,i]
 have c3:(w.alloc (.view ⟨g,0,none⟩ 5)).drew.cell? ⟨b,o+1,none⟩=some (.slice (some ⟨g,0,none⟩) 0 0):=c2;have mixed:=Tryz.checked.mixed
 go_enter Tryz.func46,Tryz.ntmps46
 go_wp2
 go_region_o
 all_goals (go_wp2;go_ret;exact⟨rfl,(Below.drew (Below.refl _ w)).alloc (la _) _⟩)
end Go.Proofs.YtglaihdcndcmkaaGreatDoor
namespace wa
noncomputable def zx(args:List PV)(bx:Ha)(oc:List Loc):Option Cg:=match args with
 |[.ptr b o]=>(vd bx b).bind fun q=>match q.2[o]? with
  |some (.flat (.pointer none))=>if o<q.2.length/\liesAt Tryz.prog Tryz.prog.depth q.1 (q.2.length/Tryz.prog.cellsOf q.1) o 101 1=true then some ([],false,bx.set b (q.1,q.2.take o++[.ptr b o]++q.2.drop (o+1)),oc)else none
  |some (.ptr a c)=>if a=b/\c=o then some ([],false,bx,oc)else none
  |_=>none
 |_=>none
def pA(args:List PV)(bx:Ha)(oc:List Loc):Option Cg:=match args with
 |[.ptr b o]=>(vd bx b).bind fun q=>match q.2[o+1]? with
  |some (.ha n cs)=>if cs.length=n/\.cell b (o+1)∈oc then(bytesOf cs).map fun l=>([.flat (.string ⟨l.toArray⟩)],false,bx,oc.filter (·≠.cell b (o+1)))else none
  |_=>none
 |_=>none
noncomputable def Lo:Callee:=fun f args bx oc=>if f=93 then zx args bx oc else if f=46 then pA args bx oc else none
section
variable {Γ:Ze}
theorem vW{args:List PV}{bx:Ha}{oc:List Loc}{t:List PV}{os:Bool}{bx':Ha}{oc':List Loc}(k:zx args bx oc=some (t,os,bx',oc')){w:World}{Fr:Nat->Nat}{β:List Nat}{vs:List Value}(B:Nl Tryz.prog Γ w Fr β args vs bx oc):
 Calls Tryz.prog 93 vs.toArray w fun e w'=>∃v Fr' β',e=.returned v/\di Tryz.prog w Fr β oc t os bx' oc' v w' Fr' β':=by
 unfold zx at k;split at k
 case h_2=>cases k
 rename_i b o;obtain⟨q,J,a⟩:=qb k;clear k;have z:=B.rel;have P:=B.args;simp only[sa,Rd]at P;obtain⟨_,_,rfl,⟨g,G,rfl⟩,rfl⟩:=P;obtain⟨X,W,Z,c,e,O,d,x,T,Y,b6⟩:=z.bx.cells J;rw[G]at O;cases O;have F:=x.length;have K:w.shape? g=some (q.1,q.2.length):=by simp[World.shape?,d,b6,F]
 have r:∀{w':World}{Fr':Nat->Nat}{β':List Nat},Rd w' Fr' β' (Nc []) (.tuple #[]):=by simp[Nc,Rd,sa]
 split at a
 ·rename_i I
  split at a
  case isFalse=>cases a
  rename_i A;cases a;obtain⟨u,M,C⟩:=x.get o _ I;obtain⟨rfl,_⟩:=zc C;have D:w.cell? ⟨g,o,none⟩=some (.pointer none):=by rw[cell_of_row _ _ _ _ _ _ d];simpa using M
  refine(uW g o q.1 q.2.length w D K A.1 A.2 (Lib.frozen_of_heap d o)).mono ?_;rintro U w' ⟨rfl,rfl⟩;have l:w.setCell ⟨g,o,none⟩ (.pointer (some ⟨g,o,none⟩))=w.setRow g (c.take o++[Value.pointer (some ⟨g,o,none⟩)]++c.drop (o+1)).toArray:=by
   rw[setCell_eq_setRow w g o _ _ _ _ d];congr 1;apply Sg;have ea:o<c.length:=aa
   rw[Array.toList_setIfInBounds,List.set_eq_take_append_cons_drop];simp[ea]
  rw[l];have H:∀L∈oc,Nd b o 1 L=false:=fun L y=>by
   cases L with
   |slot i=>rfl
   |cell N j=>
    rw[mr];intro Q;have E:N=b/\j=o:=by
     simp only[Nd,Vc,beq_iff_eq,decide_eq_true_eq]at Q;exact⟨Q.1.1,aa⟩
    obtain⟨rfl,rfl⟩:=E;obtain⟨v,p,k1Z,k2Z,n,cs,k3Z,_⟩:=z.own _ y
    grind [ab]
  obtain⟨S,V⟩:=z.store (o:=o) (n:=1) (ps:=[.ptr b o]) (us:=[Value.pointer (some ⟨g,o,none⟩)]) (e:=e) (cs:=q.2) ia G d x T (by grind [sa,Rd]) (fun u R=>by simp at R;subst R;rfl) rfl aa aa none (fun s h=>by cases h)
   (Wg (bx.set b (q.1,q.2.take o++[.ptr b o]++q.2.drop (o+1))) oc) rfl (by rw[b6];rfl) (fun L y=>.inl ⟨y,H L y,fun s h=>by cases h⟩) (fun q J=>by cases J)
  exact⟨.tuple #[],Fr,β,rfl,r,S,V,B.cells,fun h=>by cases h⟩
 ·rename_i N l I
  split at a
  case isFalse=>cases a
  rename_i A;cases a;obtain⟨rfl,rfl⟩:=A;obtain⟨u,M,C⟩:=x.get l _ I;simp only[Rd]at C;obtain⟨y,j,rfl⟩:=C;rw[G]at j;cases j;have D:w.cell? ⟨g,l,none⟩=some (.pointer (some ⟨g,l,none⟩)):=by rw[cell_of_row _ _ _ _ _ _ d];simpa using M
  refine(wW g l w D).mono ?_;rintro U w' ⟨rfl,rfl⟩;exact⟨.tuple #[],Fr,β,rfl,r,z,Le.refl _ _ _,B.cells,fun h=>by cases h⟩
 ·cases a
def zdF:U8 Tryz.prog=5:=ca
theorem XV:∀{cs}{l},bytesOf cs=some l->l≠[]->Ad cs=false
 |[],l,h,a=>by grind [bytesOf]
 |p::r,l,h,a=>by
  unfold bytesOf at h;split at h
  ·grind
  ·rename_i e;cases e;rfl
  grind
def o1{w w'}{g n}(h:cu w g n w')(a):w'.cell? a=w.cell? a:=by
 obtain⟨h,_⟩:=h
 grind [World.freeze,World.cell?]
def p1{w w'}{g n k}(h:cu w g n w')(a:k≠g):w'.heap[k]?=w.heap[k]?:=by
 obtain⟨h,_⟩:=h
 grind [World.freeze]
theorem q1{w w'}{g n}(h:cu w g n w'):w'.heap.size=w.heap.size:=by
 obtain⟨h,_⟩:=h
 grind [World.freeze]
theorem fK:∀{cs}{l},bytesOf cs=some l->l.length=cs.length
 |[],l,h=>by grind [bytesOf]
 |p::r,l,h=>by
  unfold bytesOf at h;split at h
  ·grind
  ·rename_i n r' e
   cases e;split at h
   ·obtain⟨b,a,rfl⟩:=qm h
    simp[fK a]
   grind
  grind
theorem zbR{args:List PV}{bx:Ha}{oc:List Loc}{S:List PV}{os:Bool}{bx':Ha}{oc':List Loc}(K:pA args bx oc=some (S,os,bx',oc')){w:World}{Fr:Nat->Nat}{β:List Nat}{vs:List Value}(hpZ:Nl Tryz.prog Γ w Fr β args vs bx oc):
 Calls Tryz.prog 46 vs.toArray w fun e w'=>∃v Fr' β',e=.returned v/\di Tryz.prog w Fr β oc S os bx' oc' v w' Fr' β':=by
 unfold pA at K;split at K
 case h_2=>cases K
 rename_i b o;obtain⟨q,hqZ,t⟩:=qb K;clear K;have A:=hpZ.rel;have haZ:=hpZ.args;simp only[sa,Rd]at haZ;obtain⟨_,_,rfl,⟨g,hgZ,rfl⟩,rfl⟩:=haZ;split at t
 case h_2=>cases t
 rename_i n cs hoZ;split at t
 case isFalse=>cases t
 rename_i hcZ;obtain⟨hcn,d⟩:=hcZ;obtain⟨l,hlZ,Y⟩:=qm t;clear t;cases Y;obtain⟨hqs,hlp,g'Z,cvs,e,b1Z,b2Z,b3Z,b4Z,b5Z,b6⟩:=A.bx.cells hqZ;rw[hgZ]at b1Z;cases b1Z;have N:=(xg.1 b2Z).1;have hll:=fK hlZ;obtain⟨v,p,R,k2Z,k3Z⟩:=A.own _ d;have B:=A.eH R k2Z;have T:(Wg bx oc).bx=bx:=rfl;have P:bx[b]?=some q:=hqs;simp only[ab,T,P,Ra,hoZ,Xb]at k2Z;subst k2Z;have V:w.cell? ⟨g,o+1,none⟩=some v:=by simpa only[Ga,hgZ,Ra]using R
 have fin:∀w',Rel Tryz.prog [] w.heap.size (td w β oc) w Fr 0 (Wg bx (oc.filter (·≠.cell b (o+1)))) th w' Fr β->Le w Fr β w' Fr β->di Tryz.prog w Fr β oc [.flat (.string ⟨l.toArray⟩)] false bx (oc.filter (·≠.cell b (o+1))) (.string ⟨l.toArray⟩) w' Fr β:=fun w' U D=>
  ⟨If rfl,U,D,fun L H=>hpZ.cells L (Hc.1 H).1,fun h=>by cases h⟩
 have W:∀w',Below w.heap.size w w'->di Tryz.prog w Fr β oc [.flat (.string ⟨l.toArray⟩)] false bx (oc.filter (·≠.cell b (o+1))) (.string ⟨l.toArray⟩) w' Fr β:=fun w' T=>by
  obtain⟨U,D⟩:=A.grow T (Fr':=Fr) fun _ _=>rfl
  exact fin w' (U.dm (st':=Wg bx (oc.filter (·≠.cell b (o+1)))) (fun i=>.inl rfl) rfl (fun L H=>⟨(Hc.1 H).1,fun i _=>rfl⟩) rfl) D
 obtain⟨n'Z,cs',hpe,hvZ⟩:=k3Z;cases hpe;rcases hvZ with rfl|⟨G,I,J,e2,szZ,rfl,h2Z,h3Z,h4Z,h5Z,h6Z,h7Z,h8Z,h9Z⟩
 ·have F:n=0:=by
   simp only[Rd]at B;obtain⟨a,I,X,_⟩:=B;cases X;rfl
  have z:l=[]:=qz aa;subst z;refine(zbQ g o w V).mono ?_
  grind
 ·by_cases z:l=[]
  ·subst z
   have F:n=0:=by simp at hll;omega
   have c:=h8Z F;subst F;subst c;refine(zbT g o G e2 J.size w V N (by simp[World.shape?,h2Z])).mono ?_
   grind
  ·have O:=DA.2 z
   have hnl:n=l.length:=aa
   subst hnl;have hsz:szZ=1:=by
    have:l.length* szZ=l.length* 1:=by rw[<-h7Z];omega
    exact Nat.eq_of_mul_eq_mul_left O this
   subst hsz;have Z:e2=5:=by
    rcases h9Z rfl with h|h
    ·grind [XV]
    ·rw[h];exact zdF
   subst Z;have Q:∀j x,l[j]?=some x->w.cell? ((⟨G,0,none⟩:Addr).add j)=some (.int .u8 x.toNat):=fun j x hjZ=>by
    simp only[Rd]at B;obtain⟨a,cap',X,_,hr⟩:=B;rcases hr with⟨_,h0Z⟩|⟨g3,o3Z,vs3,rfl,r1,r2Z,r3Z⟩
    ·omega
    ·cases X
     have T:=wx hlZ r2Z;rw[add_eq];exact(r1 j _ ia).2
   have hng:∀k∈β,k≠G:=fun k y e=>A.out _ d _ G R rfl (e▸y)
   refine(zbS g o G I J.size l w z aa V (by simp[World.shape?,h2Z]) aa aa Q).mono ?_;rintro e'Z w' ⟨rfl,M⟩;have C:=o1 M;have c:∀k,k≠G->w'.heap[k]?=w.heap[k]?:=fun k y=>p1 M y
   have E:Le w Fr β w' Fr β:=⟨by grind [q1],fun _ _=>la _,fun k j _ _=>C _,fun _ _ h=>h,fun k r y=>⟨r,(c k fun e=>by grind).trans y⟩⟩;have hval:∀L,Ga th w' β L=Ga th w β L:=fun L=>by
    cases L<;>grind [Ga]
   have mem:∀L,L∈oc.filter (·≠.cell b (o+1))->L∈oc/\L≠.cell b (o+1):=fun L H=>by grind
   refine⟨_,Fr,β,rfl,fin w' (A.next E (fun i=>by simp[Wg,look,Rd]) rfl rfl (A.bx.kept E fun k y=>⟨c k (hng k y),rfl⟩) A.nd (fun g h=>.inl h) some (fun L H=>?_) (fun L _ L'Z _ ra L0Z h h'Z=>ra ia) (fun L _ L'Z _ _ h=>by cases h) (fun q hqZ=>by cases hqZ) (fun k y _ hno=>⟨c k fun e=>hno _ d _ R (by rw[e];rfl),rfl⟩) M.2.1 M.2.2.1 M.2.2.2) E⟩;obtain⟨m1Z,m2Z⟩:=mem L H;obtain⟨u,q'Z,j1Z,j2Z,j3Z⟩:=A.own L m1Z;refine⟨u,q'Z,ia,?_,j3Z.kept fun k y=>⟨c k fun e=>?_,rfl⟩,fun k y=>.inr ⟨L,m1Z,rfl,u,j1Z,y⟩⟩
   ·cases L with
    |slot i=>exact j2Z
    |cell b'Z j=>exact j2Z
   ·exact A.sep L m1Z _ d m2Z u _ k j1Z R y (by rw[e];rfl)
def UJ:dc Tryz.prog Γ Lo:=fun f args bx oc d os bx' oc' a w Fr β vs c=>by
 unfold Lo at a;split at a
 ·rename_i b
  subst b;exact enters_of ca ga (vW a c)
 ·split at a
  ·rename_i b
   subst b;exact enters_of ca ga (zbR a c)
  grind
end
variable {lib:Callee}
def pe(lib:Callee):Prop:=∀f args bx oc r,Lo f args bx oc=some r->lib f args bx oc=some r
def bld(u:Bool)(b:Nat)(l:ba)(rest:List PV):List PV:=(match u with|true=>.ptr b 0|false=>.flat (.pointer none))::.ha l.length (Yc l)::rest
def nj(e n:Nat):Prop:=liesAt Tryz.prog Tryz.prog.depth e (n/Tryz.prog.cellsOf e) 0 101 1=true
def Hs:nj 101 2:=by unfold nj;kernel_rfl
def VJ{u}{b}{l}{rest}:Dq (bld u b l rest)=false:=by cases u<;>rfl
theorem rM(c:pe lib){bx}{oc}{b e}{u}{l}{rest}(d:bx[b]?=some (e,bld u b l rest))(h:nj e (2+rest.length)):
 fa code lib 93 [.ptr b 0] bx oc=some ([],false,bx.set b (e,bld true b l rest),oc):=by
 refine Ud ga ja (c _ _ _ _ _ ?_);have a:vd bx b=some (e,bld u b l rest):=by rw[mC,d,HD,VJ];rfl
 unfold Lo zx;rw[if_pos rfl];dsimp only;rw[a,Ra];cases u with
 |false=>
  have g:0<(bld false b l rest).length/\liesAt Tryz.prog Tryz.prog.depth e ((bld false b l rest).length/Tryz.prog.cellsOf e) 0 101 1=true:=⟨by simp[bld],by
   have:(bld false b l rest).length=2+rest.length:=by simp[bld];omega
   rw[this];exact h⟩
  show(if _ then _ else _)=_;rw[if_pos g];rfl
 |true=>
  show(if b=b/\0=0 then _ else _)=_
  grind [xp]
def xt(c:pe lib){bx}{oc}{b e}{u}{l}{rest}(d:bx[b]?=some (e,bld u b l rest))(g:.cell b 1∈oc):
 fa code lib 46 [.ptr b 0] bx oc=some ([.flat (.string (S l))],false,bx,ad (.cell b 1) oc):=by
 refine Ud ga ja (c _ _ _ _ _ ?_);have a:vd bx b=some (e,bld u b l rest):=by rw[mC,d,HD,VJ];rfl
 unfold Lo pA;rw[if_neg ga,if_pos rfl];dsimp only;rw[a,Ra];show(if(Yc l).length=l.length/\.cell b 1∈oc then _ else _)=_;rw[if_pos ⟨Wl,g⟩,pC];rfl
def Hl(n:pe lib){bx}{r}{b e}{u}{l m}{rest}(k:bx[b]?=some (e,bld u b l rest))(o:nj e (2+rest.length))(hs:l.length+m.length<=Da)(hr:∀q∈r,q≠(b,1))(ea:∀q∈r,q.1<bx.length):
 fa code lib 45 [.ptr b 0,.flat (.string (S m))] bx (.cell b 1::cl r)=some ([.flat (.int .i64 m.length),.flat .nilIface],false,bx.set b (e,bld true b (l++m) rest),.cell b 1::cl r):=by
 refine ma TX (qa rfl) ?_;have c:=(qg k).1;have d:=fun oc=>rM (oc:=oc) n k o
 obtain⟨a,h⟩:∃a,bx.set b (e,bld true b l rest)=a:=⟨_,rfl⟩;have i:a[b]?=some (e,.ptr b 0::.ha l.length (Yc l)::rest):=by rw[<-h,yg c];rfl
 have j:a.length=bx.length:=by rw[<-h,Bc]
 have g:∀q,a.set b q=bx.set b q:=fun q=>by grind [List.set_set]
 rw[h]at d;simp only[go_sem,simprocAttr,d,xb,cb,wb,pb,Bb,mn r hr,Hf r hr,db r ea,i,j,c,Bc,Na,NI,cn,qx,Wl,hs,g,ic]
 grind [bld]
def hI(o:pe lib){bx}{r}{b e}{u}{l}{c}{rest}(n:bx[b]?=some (e,bld u b l rest))(t:nj e (2+rest.length))(hs:l.length+1<=Da)(hr:∀q∈r,q≠(b,1))(ea:∀q∈r,q.1<bx.length):
 fa code lib 44 [.ptr b 0,.flat (.int .u8 c.toNat)] bx (.cell b 1::cl r)=some ([.flat .nilIface],false,bx.set b (e,bld true b (l++[c]) rest),.cell b 1::cl r):=by
 refine ma SX (qa rfl) ?_;have d:=(qg n).1;have g:=fun oc=>rM (oc:=oc) o n t
 obtain⟨a,i⟩:∃a,bx.set b (e,bld true b l rest)=a:=⟨_,rfl⟩;have j:a[b]?=some (e,.ptr b 0::.ha l.length (Yc l)::rest):=by rw[<-i,yg d];rfl
 have k:a.length=bx.length:=by rw[<-i,Bc]
 have h:∀q,a.set b q=bx.set b q:=fun q=>by grind [List.set_set]
 have p:[PV.flat (.int .u8 c.toNat)]=Yc [c]:=rfl;rw[i]at g;simp only[go_sem,simprocAttr,g,xb,cb,wb,pb,Bb,mn r hr,Hf r hr,db r ea,j,k,d,Bc,Na,NI,cn,Wl,hs,h,ic]
 grind [bld,qx]
def kh(n:Nat):Nat:=if(n<32/\n≠9/\n≠10)\/(127<=n/\n<160)then 65533 else n
def ZS(n:Nat):fa code lib 160 [.flat (.int .i32 n)] [] []=some ([.flat (.int .i32 (kh n:Nat))],false,[],[]):=by
 refine ma iY (qa rfl) ?_;unfold kh;by_cases d:n<32
 ·have a:(n:Int)<32:=aa
  by_cases b:n=9
  ·subst b;simp only[go_sem,simprocAttr]
  ·have e:¬(n:Int)=9:=aa
   by_cases c:n=10
   ·subst c;simp only[go_sem,simprocAttr]
   ·have g:¬(n:Int)=10:=aa
    rw[if_pos (.inl ⟨d,b,c⟩)];exact va @Hi
 ·have a:¬(n:Int)<32:=aa
  by_cases e:127<=n
  ·have b:(127:Int)<=n:=aa
   by_cases g:n<160
   ·have c:(n:Int)<160:=aa
    rw[if_pos (.inr ⟨e,g⟩)];exact va @Hi
   ·have c:¬(n:Int)<160:=aa
    rw[if_neg aa];exact ta
  ·have b:¬(127:Int)<=n:=aa
   rw[if_neg aa];exact ta
theorem Tj(n):(ob n).length<=4:=by
 grind [ob,Xg]
def YS{n}(h:n<8388608):kh n<2147483648:=by grind [kh]
structure qr where
 at_:Nat
 u:Bool
 out:ba
def vh(l:ba)(q:Nat×Nat)(k:Nat):Bool:=decide (q.1=13/\l[k+q.2]?=some 10)
def Be(l:ba)(a:qr)(q:Nat×Nat):qr×Bool:=
 if vh l q a.at_ then(⟨a.at_+q.2,a.u,a.out⟩,true)else(⟨a.at_+q.2,true,a.out++ob (kh (if q.1=13 then 10 else q.1))⟩,true)
def ln(l:ba)(a:qr):Ha:=[(9,[.flat (.string (S l))]),(101,bld a.u 1 a.out []),(3,[.flat (.int .i64 (a.at_:Nat))]),(9,[.flat (.string (S l))]),(0,[.lp 95 0 .ready [1,3,4] [.ptr 0 0,.ptr 1 0,.ptr 2 0]])]
def EW(x:pe lib)(l)(B:l.length<1000000000)(a)(q)(A:a.at_+q.2<=l.length)(C:a.out.length+4<=Da)(y:q.1<8388608):
 fa code lib hb [.Ma 4,.flat (.int .i32 (q.1:Nat)),.flat (.int .i64 (q.2:Nat))] (ln l a) [.cell 1 1]=some ([.flat (.bool true)],false,ln l (Be l a q).1,[.cell 1 1]):=by
 refine fs Rr IM rfl rfl rfl ?_;have t:IntKind.i64.wrap ((a.at_:Int)+(q.2:Nat))=((a.at_+q.2:Nat):Int):=wrap64 aa;have sh:=fun n=>ZS (lib:=lib) n
 have g:fa code lib 160 [.flat (.int .i32 10)] [] []=some ([.flat (.int .i32 (kh 10:Nat))],false,[],[]):=ZS 10;have j:=fun n(h:n<2147483648)=>qC (lib:=lib) n h
 have v:nj 101 (2+([]:List PV).length):=Hs
 have w:∀(m:ba),m.length<=4->fa code lib 45 [.ptr 1 0,.flat (.string (S m))] [(9,[.flat (.string (S l))]),(101,bld a.u 1 a.out []),(3,[.flat (.int .i64 ((a.at_+q.2:Nat):Int))]),(9,[.flat (.string (S l))]),(0,[.lp 95 0 .busy [1,3,4] [.ptr 0 0,.ptr 1 0,.ptr 2 0]])] [.cell 1 1]=
  some ([.flat (.int .i64 m.length),.flat .nilIface],false,[(9,[.flat (.string (S l))]),(101,bld true 1 (a.out++m) []),(3,[.flat (.int .i64 ((a.at_+q.2:Nat):Int))]),(9,[.flat (.string (S l))]),(0,[.lp 95 0 .busy [1,3,4] [.ptr 0 0,.ptr 1 0,.ptr 2 0]])],[.cell 1 1]):=fun m k=>
  Hl x (b:=1) (r:=[]) (rest:=[]) rfl v aa (fun q e=>by cases e) (fun q e=>by cases e)
 by_cases c1:q.1=13
 ·have d:((q.1:Nat):Int)=13:=aa
  have p:=j (kh 10) (YS aa);have u:=w _ (Tj (kh 10));by_cases c2:a.at_+q.2<l.length
  ·have e:((a.at_+q.2:Nat):Int)<l.length:=aa
   obtain⟨c,o⟩:∃c,l[a.at_+q.2]?=some c:=⟨_,qe c2⟩;have z0:(0:Int)<=((a.at_+q.2:Nat):Int):=aa
   by_cases c3:c=10
   ·subst c3
    have i:vh l q a.at_=true:=by simp[vh,c1,o]
    have k:(((10:UInt8).toNat:Nat):Int)=10:=rfl;simp only[Zu,Vu,ln,Be,i,d,e,z0,t,o,Na,Xc,Kg,cc,go_sem,simprocAttr]
   ·have i:vh l q a.at_=false:=by simp[vh,o,c3]
    have k:¬((c.toNat:Nat):Int)=10:=fun h=>by
     have z:c.toNat=(10:UInt8).toNat:=by have:(10:UInt8).toNat=10:=rfl;omega
     exact c3 (Yb.1 z)
    simp only[Zu,Vu,ln,Be,i,c1,d,e,k,z0,t,o,Na,Xc,Kg,cc,g,p,u,go_sem,simprocAttr]
  ·have e:¬((a.at_+q.2:Nat):Int)<l.length:=aa
   have k:l[a.at_+q.2]?=none:=Ie aa;have i:vh l q a.at_=false:=by simp[vh,k]
   simp only[Zu,Vu,ln,Be,i,c1,d,e,t,Na,g,p,u,go_sem,simprocAttr]
 ·have d:¬((q.1:Nat):Int)=13:=aa
  have i:vh l q a.at_=false:=by simp[vh,c1]
  have p:=j (kh q.1) (YS y);have u:=w _ (Tj (kh q.1));simp only[Zu,Vu,ln,Be,i,c1,d,t,sh,p,u,go_sem,simprocAttr]
theorem rT(l)(a)(q):(Be l a q).2=true:=by grind [Be]
theorem DH(l)(a)(q):(Be l a q).1.at_=a.at_+q.2:=by grind [Be]
theorem qT(l)(a)(q):(Be l a q).1.out.length<=a.out.length+4:=by
 grind [Be,Tj]
def zV{u}{b nb}{l}{rest}(h:b<nb)(hr:La nb rest=true):La nb (bld u b l rest)=true:=by
 cases u<;>simp[bld,La,PV.low,XB,hr,h]
def Yj(l:ba):qr:=(Se (Be l) ⟨0,false,[]⟩ (We l)).1
def Lh(l:ba):ba:=(Yj l).out
def uC(d:pe lib)(l)(o:l.length<1000000000):fa code lib 95 [.flat (.string (S l))] [] []=some ([.flat (.string (S (Lh l)))],false,[],[]):=by
 refine ma IM (qa rfl) ?_
 have b:=eB (lib:=lib) l (by grind [Sm]) (ln l) (fun _=>[(1,1)]) (Be l) (fun a k=>a.at_=k/\a.out.length<=4* k) 4 3 5 (fun a _ _=>rfl) (fun a=>rfl) (fun a q r=>by grind)
  (fun a k q j _ _ g _ _=>by
    grind [qT,DH])
  (fun a k q j _ _ g h _=>by
    have i:=EW d l o a q aa (by grind [Da]) h;rw[rT];exact i) ⟨0,false,[]⟩ ⟨rfl,Za _⟩
 have e:cl [(1,1)]=[.cell 1 1]:=rfl;have n:(Se (Be l) ⟨0,false,[]⟩ (We l)).1=Yj l:=rfl;simp only[e,n]at b;have c:fa code lib 224 [.Ma 4,.ptr 3 0] [(9,[.flat (.string (S l))]),(101,[.flat (.pointer none),.ha 0 []]),(3,[.flat (.int .i64 0)]),(9,[.flat (.string (S l))]),(0,[.lp 95 0 .ready [1,3,4] [.ptr 0 0,.ptr 1 0,.ptr 2 0]])] [.cell 1 1]=some ([],false,ln l (Yj l),[.cell 1 1]):=b;have e1:=cB (lib:=lib) l [(9,[.flat (.string (S l))]),(101,[.flat (.pointer none),.ha 0 []]),(3,[.flat (.int .i64 0)])] [(1,1)] da;simp only[e,go_sem,simprocAttr]at e1;have e2:=dB (lib:=lib) l [];simp only[go_sem,simprocAttr]at e2
 have e3:fa code lib 46 [.ptr 1 0] [(9,[.flat (.string (S l))]),(101,bld (Yj l).u 1 (Yj l).out []),(3,[.flat (.int .i64 ((Yj l).at_:Nat))]),(9,[.flat (.string (S l))])] [.cell 1 1]=
  some ([.flat (.string (S (Yj l).out))],false,[(9,[.flat (.string (S l))]),(101,bld (Yj l).u 1 (Yj l).out []),(3,[.flat (.int .i64 ((Yj l).at_:Nat))]),(9,[.flat (.string (S l))])],ad (.cell 1 1) [.cell 1 1]):=xt d rfl da
 have p:La 4 (bld (Yj l).u 1 (Yj l).out [])=true:=zV aa rfl;exact Rc @ln.eq_1 @Lh.eq_1
def bA(n:Nat):fa code lib 134 [.flat (.int .i64 n)] [] []=some ([.flat (.bool (ee n))],false,[],[]):=by
 refine ma jX (qa rfl) ?_;have d:(0:Int)<=n:=aa
 have a:((n:Int)<=1114111)=(n<=1114111):=by apply propext;omega
 have b:((55296:Int)<=n)=(55296<=n):=by apply propext;omega
 have c:((n:Int)<=57343)=(n<=57343):=by apply propext;omega
 by_cases e:n<=1114111<;>by_cases g:55296<=n<;>by_cases i:n<=57343
 all_goals
  have e3:decide (n<55296)=!decide (55296<=n):=by by_cases h:55296<=n<;>simp[h]<;>omega
  have e4:decide (57343<n)=!decide (n<=57343):=by by_cases h:n<=57343<;>simp[h]<;>omega
  simp only[go_sem,simprocAttr,ee,e3,e4,d,a,b,c,e,g,i,Pm,Ip]
def iq(n:Nat):fa code lib 72 [.flat (.int .i64 n)] [] []=some ([.flat (.string (S (ob n)))],false,[],[]):=by
 refine ma fX (qa rfl) ?_;have d:=bA (lib:=lib) n;cases c:ee n with
 |true=>
  rw[c]at d;have r:n<=1114111:=by simp only[ee,Vc,decide_eq_true_eq]at c;exact c.1
  have c1:((n:Int)<65536)=(n<65536):=by apply propext;omega
  have c2:((n:Int)<2048)=(n<2048):=by apply propext;omega
  have c3:((n:Int)<128)=(n<128):=by apply propext;omega
  have o:IntKind.i64.wrap ((n:Int).tdiv 64)=((n/64:Nat):Int):=by
   rw[show(n:Int).tdiv 64=((n/64:Nat):Int)from rfl];exact wrap64 aa
  have p:IntKind.i64.wrap ((n:Int).tdiv 4096)=((n/4096:Nat):Int):=by
   rw[show(n:Int).tdiv 4096=((n/4096:Nat):Int)from rfl];exact wrap64 aa
  have q:IntKind.i64.wrap ((n:Int).tdiv 262144)=((n/262144:Nat):Int):=by
   rw[show(n:Int).tdiv 262144=((n/262144:Nat):Int)from rfl];exact wrap64 aa
  have m0:∀m:Nat,((m:Int).tmod 64)=((m % 64:Nat):Int):=fun m=>rfl
  have a:∀m:Nat,m<64->IntKind.i64.wrap (128+(m:Int))=((128+m:Nat):Int):=fun m h=>by grind [wrap64]
  have g:∀m:Nat,m<64->IntKind.i64.wrap (192+(m:Int))=((192+m:Nat):Int):=fun m h=>by grind [wrap64]
  have i:∀m:Nat,m<64->IntKind.i64.wrap (224+(m:Int))=((224+m:Nat):Int):=fun m h=>by grind [wrap64]
  have j:∀m:Nat,m<64->IntKind.i64.wrap (240+(m:Int))=((240+m:Nat):Int):=fun m h=>by rw[wrap64 aa];rfl
  have l:∀m:Nat,m<256->IntKind.u8.wrap (m:Int)=(m:Int):=fun m h=>Mj aa
  simp only[ob,c,if_true,Xg];by_cases b:n<128
  ·rw[if_pos b]
   simp(disch:=omega) only[go_sem,simprocAttr,d,c3,b,l,Oo,Po,Ge,kc,Bf]
  ·rw[if_neg b]
   by_cases e:n<2048
   ·rw[if_pos e]
    simp(disch:=omega) only[go_sem,simprocAttr,d,c3,b,c2,e,o,m0,a,g,l,Oo,Po,Ge,kc,Bf]
   ·rw[if_neg e]
    by_cases k:n<65536
    ·rw[if_pos k]
     simp(disch:=omega) only[go_sem,simprocAttr,d,c3,b,c2,e,c1,k,o,p,m0,a,i,l,Oo,Po,Ge,kc,Bf]
    ·rw[if_neg k]
     simp(disch:=omega) only[go_sem,simprocAttr,d,c3,b,c2,e,c1,k,o,p,q,m0,a,j,l,Oo,Po,Ge,kc,Bf]
 |false=>
  rw[c]at d;have b:ob n=[239,191,189]:=by unfold ob;rw[c];simp only[Fa,if_false];decide
  have a:pa (fa code lib)=pa (fa code lib):=rfl;have e:IntKind.i64.wrap ((65533:Int).tdiv 4096)=15:=ga
  have g:IntKind.i64.wrap ((65533:Int).tdiv 64)=1023:=ga
  have i:(1023:Int).tmod 64=63:=ga
  have j:(65533:Int).tmod 64=61:=ga
  have k:IntKind.i64.wrap 239=239:=ga
  have l:IntKind.i64.wrap 191=191:=ga
  have o:IntKind.i64.wrap 189=189:=ga
  have p:IntKind.u8.wrap 239=239:=ga
  have q:IntKind.u8.wrap 191=191:=ga
  have r:IntKind.u8.wrap 189=189:=ga
  have u:IntKind.i64.wrap 15=15:=ga
  have v:IntKind.i64.wrap 1023=1023:=ga
  have t:bytesOf [.flat (.int .u8 239),.flat (.int .u8 191),.flat (.int .u8 189)]=some [239,191,189]:=ga
  exact ta
def hl:Nat->Int
 |2=>192
 |3=>224
 |4=>240
 |_=>0
def zN(l:ba)(k:Nat):Nat->Int
 |0=>0
 |1=>((l.getD 0 0).toNat:Int) - hl k
 |i+2=>64* zN l k (i+1)+((l.getD (i+1) 0).toNat:Int) - 128
def EP(k):0<=hl k/\hl k<=240:=by unfold hl;grind
def xU(l)(k):∀i,i<=4->-400000000<=zN l k i/\zN l k i<=400000000:=by
 intro i a;have g:=EP k;have b:=(l.getD 0 0).toNat_lt;have c:=(l.getD 1 0).toNat_lt;have d:=(l.getD 2 0).toNat_lt;have e:=(l.getD 3 0).toNat_lt
 match i,a with
 |0,_=>simp[zN]
 |1,_=>grind [zN]
 |2,_=>grind [zN]
 |3,_=>grind [zN]
 |4,_=>grind [zN]
def mj:List PV:=[.flat (.int .i64 0),.flat (.int .i64 0),.flat (.int .i64 192),.flat (.int .i64 224),.flat (.int .i64 240)]
def yq(s:ba)(at_ k:Nat)(i:Nat):St:=⟨[(0,.flat (.string (S s))),(1,.flat (.int .i64 (at_:Nat))),(6,.ha 5 mj),(7,.flat (.int .i64 (k:Nat))),(8,.flat (.int .i64 (zN (s.drop at_) k i))),(9,.flat (.int .i64 (i:Nat)))],[.slot 6],[],[]⟩
def rO(s:ba)(at_ i)(h:i<(s.drop at_).length):s[at_+i]?=some ((s.drop at_).getD i 0):=by
 grind
def K1(s)(at_ k)(hs:Sm s)(y:k<=4)(p:k<=(s.drop at_).length)(i)(d:1<=i)(e:i<=k):Fc (pa (fa code lib) ka qB) [0,1,6,7,8,9] 0 ka (yq s at_ k i)=
 some (.exit 2,⟨[(0,.flat (.string (S s))),(1,.flat (.int .i64 (at_:Nat))),(6,.ha 5 mj),(7,.flat (.int .i64 (k:Nat))),(8,.flat (.int .i64 (zN (s.drop at_) k k)))],[.slot 6],[],[]⟩):=by
 have n:at_+k<=s.length:=by
  rw[Ya]at p;rcases ai s.length at_ with h|h<;>omega
 unfold Sm at hs;refine wh (yq s at_ k) (fun i=>1<=i/\i<=k) (fun i=>k - i) (fun _=>(.exit 2,⟨[(0,.flat (.string (S s))),(1,.flat (.int .i64 (at_:Nat))),(6,.ha 5 mj),(7,.flat (.int .i64 (k:Nat))),(8,.flat (.int .i64 (zN (s.drop at_) k k)))],[.slot 6],[],[]⟩)) (fun i ⟨d,e⟩=>?_) ⟨d,e⟩ (by grind [ka]);by_cases ea:i<k
 ·right
  have e1:=rO s at_ i aa;obtain⟨c,g⟩:∃c,(s.drop at_).getD i 0=c:=⟨_,rfl⟩;rw[g]at e1;have o:=c.toNat_lt;have q:=xU (s.drop at_) k i aa;have b:zN (s.drop at_) k (i+1)=64* zN (s.drop at_) k i+(c.toNat:Int) - 128:=by
   obtain⟨j,rfl⟩:∃j,i=j+1:=⟨i - 1,aa⟩;simp only[zN,g]
  obtain⟨z,a⟩:∃z,zN (s.drop at_) k i=z:=⟨_,rfl⟩;rw[a]at q b;have c1:(i:Int)<k:=aa
  have r:IntKind.i64.wrap (64* z)=64* z:=wrap64 aa;have t:IntKind.i64.wrap (c.toNat:Int)=(c.toNat:Int):=wrap64 aa;have u:IntKind.i64.wrap (64* z+(c.toNat:Int))=64* z+(c.toNat:Int):=wrap64 aa;have v:IntKind.i64.wrap (64* z+(c.toNat:Int) - 128)=64* z+(c.toNat:Int) - 128:=wrap64 aa;have w:IntKind.i64.wrap ((at_:Int)+(i:Nat))=((at_+i:Nat):Int):=wrap64 aa;have x:IntKind.i64.wrap ((i:Int)+1)=((i+1:Nat):Int):=wrap64 aa;have l:(0:Int)<=((at_+i:Nat):Int):=aa
  refine⟨⟨[(0,.flat (.string (S s))),(1,.flat (.int .i64 (at_:Nat))),(6,.ha 5 mj),(7,.flat (.int .i64 (k:Nat))),(8,.flat (.int .i64 (64* z+(c.toNat:Int) - 128))),(9,.flat (.int .i64 ((i+1:Nat):Int)))],[.slot 6],[],[]⟩,i+1,?_,?_,⟨aa,aa⟩,aa,rfl⟩
  ·simp only[mR,yq,a,go_sem,simprocAttr,c1,Xc,cc,l,e1,Kg,r,t,u,v,w,x]
  ·rw[show yq s at_ k (i+1)=_ from rfl]
   exact va @yq.eq_1
 ·left
  obtain rfl:i=k:=aa
  have c1:¬(i:Int)<i:=aa
  refine⟨.exit 2,_,?_,da,rfl⟩;exact Rc mR @yq.eq_1
def lh(l:ba)(k:Nat):Bool:=decide (0<=zN l k k)&&(ee (zN l k k).toNat&&decide (ob (zN l k k).toNat=l.take k))
def jj(l:ba):Nat->Nat->Option Nat
 |0,_=>none
 |n+1,k=>if k<=4/\k<=l.length then(if lh l k then some k else jj l n (k+1))else none
def c6(k)(h:k<=4):mj.drop k=.flat (.int .i64 (hl k))::mj.drop (k+1):=by
 match k,h with
 |0,_=>rfl
 |1,_=>rfl
 |2,_=>rfl
 |3,_=>rfl
 |4,_=>rfl
def lj(s:ba)(at_ k:Nat):St:=⟨[(0,.flat (.string (S s))),(1,.flat (.int .i64 (at_:Nat))),(6,.ha 5 mj),(7,.flat (.int .i64 (k:Nat)))],[.slot 6],[],[]⟩
def zl(l:ba)(k:Nat):Out×St:=match jj l (5 - k) k with
 |some j=>(.ret,⟨[(4,.flat (.int .i64 (zN l j j))),(5,.flat (.int .i64 (j:Nat)))],[],[],[]⟩)
 |none=>(.exit 0,⟨[],[],[],[]⟩)
def R7(s)(at_)(hs:Sm s)(u:at_<s.length):Fc (pa (fa code lib) ka pB) [0,1,6,7] 0 ka (lj s at_ 1)=some (zl (s.drop at_) 1):=by
 have A:(s.drop at_).length=s.length - at_:=Ya;refine wh (lj s at_) (fun k=>1<=k/\k<=5) (fun k=>5 - k) (zl (s.drop at_)) (fun k ⟨t,I⟩=>?_) ⟨la _,aa⟩ (by grind [ka]);have l:=hs;unfold Sm at l;have P:IntKind.i64.wrap ((s.length:Int) - (at_:Nat))=(s.length:Int) - (at_:Nat):=wrap64 aa;by_cases g:k<=4/\k<=(s.drop at_).length
 ·have x:jj (s.drop at_) (5 - k) k=if lh (s.drop at_) k then some k else jj (s.drop at_) (5 - (k+1)) (k+1):=by
   obtain⟨j,q⟩:∃j,5 - k=j+1:=⟨4 - k,aa⟩;rw[q,show 5 - (k+1)=j by omega];simp only[jj];rw[if_pos g]
  have d:=K1 (lib:=lib) s at_ k hs g.1 g.2 1 (la _) t;have n:=rO s at_ 0 aa;rw[Cj]at n;have i:zN (s.drop at_) k 1=(((s.drop at_).getD 0 0).toNat:Int) - hl k:=rfl;have D:=xU (s.drop at_) k k g.1;obtain⟨c,v⟩:∃c,(s.drop at_).getD 0 0=c:=⟨_,rfl⟩;have w:=c.toNat_lt;have y:=EP k;rw[v]at n i;simp only[yq,n1,i]at d;have c1:(k:Int)<=4:=aa
  have c2:(k:Int)<=(s.length:Int) - (at_:Nat):=aa
  have c3:(0:Int)<=(k:Nat):=aa
  have c4:(k:Int)<5:=aa
  have H:1<=(mj.drop (k+1)).length+1:=aa
  have c5:(0:Int)<=(at_:Nat):=aa
  have E:(at_:Int)<=((at_+k:Nat):Int):=aa
  have F:((at_+k:Nat):Int)<=s.length:=aa
  have G:(0:Int)<=((at_+k:Nat):Int):=aa
  have L:IntKind.i64.wrap (c.toNat:Int)=(c.toNat:Int):=wrap64 aa;have M:IntKind.i64.wrap ((c.toNat:Int) - hl k)=(c.toNat:Int) - hl k:=wrap64 aa;have N:IntKind.i64.wrap ((at_:Int)+(k:Nat))=((at_+k:Nat):Int):=wrap64 aa;have O:IntKind.i64.wrap ((k:Int)+1)=((k+1:Nat):Int):=wrap64 aa;have J:=c6 k g.1;have C:(s.take (at_+k)).drop at_=(s.drop at_).take k:=by rw[List.take_drop]
  obtain⟨z,r⟩:∃z,zN (s.drop at_) k k=z:=⟨_,rfl⟩;have b:lh (s.drop at_) k=false->zl (s.drop at_) (k+1)=zl (s.drop at_) k:=fun h=>by
   grind [zl]
  have a:lh (s.drop at_) k=(decide (0<=z)&&(ee z.toNat&&decide (ob z.toNat=(s.drop at_).take k))):=by unfold lh;rw[r]
  rw[r]at d;by_cases e:0<=z
  ·obtain⟨m,B⟩:∃m:Nat,z=(m:Int):=⟨z.toNat,aa⟩
   have r1:=bA (lib:=lib) m;have K:=iq (lib:=lib) m;rw[B]at d e a;simp only[cc]at a;cases p:ee m with
   |true=>
    rw[p]at r1 a;by_cases o:ob m=(s.drop at_).take k
    ·left
     have ht:lh (s.drop at_) k=true:=by rw[a];simp[e,o]
     refine⟨.ret,⟨[(4,.flat (.int .i64 (m:Int))),(5,.flat (.int .i64 (k:Nat)))],[],[],[]⟩,?_,da,by grind [zl]⟩;exact Zf Ts @lj.eq_1 @r1
    ·right
     have ht:lh (s.drop at_) k=false:=by rw[a];simp[o]
     refine⟨⟨[(0,.flat (.string (S s))),(1,.flat (.int .i64 (at_:Nat))),(6,.ha 5 mj),(7,.flat (.int .i64 ((k+1:Nat):Int)))],[.slot 6],[],[]⟩,k+1,?_,?_,⟨aa,aa⟩,aa,b ht⟩
     ·exact Zf Ts @lj.eq_1 @r1
     ·exact va @lj.eq_1
   |false=>
    rw[p]at r1 a;right;have ht:lh (s.drop at_) k=false:=by rw[a];simp
    refine⟨⟨[(0,.flat (.string (S s))),(1,.flat (.int .i64 (at_:Nat))),(6,.ha 5 mj),(7,.flat (.int .i64 ((k+1:Nat):Int)))],[.slot 6],[],[]⟩,k+1,?_,?_,⟨aa,aa⟩,aa,b ht⟩
    ·exact Zf Ts @lj.eq_1 @r1
    ·exact va @lj.eq_1
  ·right
   have ht:lh (s.drop at_) k=false:=by rw[a];simp[e]
   refine⟨⟨[(0,.flat (.string (S s))),(1,.flat (.int .i64 (at_:Nat))),(6,.ha 5 mj),(7,.flat (.int .i64 ((k+1:Nat):Int)))],[.slot 6],[],[]⟩,k+1,?_,?_,⟨aa,aa⟩,aa,b ht⟩
   ·exact Rc Ts @lj.eq_1
   ·exact va @lj.eq_1
 ·left
  have x:jj (s.drop at_) (5 - k) k=none:=by
   cases q:5 - k with
   |zero=>rfl
   |succ j=>grind [jj]
  refine⟨.exit 0,⟨[],[],[],[]⟩,?_,da,by grind [zl]⟩;by_cases c1:k<=4
  ·have a:(k:Int)<=4:=aa
   have b:¬(k:Int)<=(s.length:Int) - (at_:Nat):=aa
   exact Rc Ts @lj.eq_1
  ·have a:¬(k:Int)<=4:=aa
   exact Rc Ts @lj.eq_1
theorem kD{l}:∀{n k j},jj l n k=some j->lh l j=true/\j<=4/\j<=l.length/\k<=j
 |0,k,j,h=>by cases h
 |n+1,k,j,h=>by
  simp only[jj]at h;split at h
  ·rename_i e
   split at h
   ·grind
   ·obtain⟨a,b,c,d⟩:=kD h
    grind
  grind
def Wn(l:ba):Nat×Nat:=match l with
 |[]=>(0,0)
 |_=>match jj l 4 1 with
  |some j=>((zN l j j).toNat,j)
  |none=>(65533,1)
def Y6(s)(at_:Nat)(hs:Sm s)(i:at_<=s.length):fa code lib 71 [.flat (.string (S s)),.flat (.int .i64 (at_:Nat))] [] []=some ([.flat (.int .i64 ((Wn (s.drop at_)).1:Nat)),.flat (.int .i64 ((Wn (s.drop at_)).2:Nat))],false,[],[]):=by
 refine ma iX (qa rfl) ?_;have k:¬(at_:Int)<0:=aa
 by_cases ea:at_<s.length
 ·have c1:¬(s.length:Int)<=(at_:Nat):=aa
  have e:=R7 (lib:=lib) s at_ hs ea;have ra:∃c t,s.drop at_=c::t:=⟨s[at_],s.drop (at_+1),ld ea⟩;obtain⟨c,t,d⟩:=ra;cases b:jj (s.drop at_) 4 1 with
  |some j=>
   obtain⟨g,_⟩:=kD b;have l:0<=zN (s.drop at_) j j:=by
    unfold lh at g;simp only[Vc,decide_eq_true_eq]at g;exact g.1
   have hr:Wn (s.drop at_)=((zN (s.drop at_) j j).toNat,j):=by
    rw[d]at b⊢;simp only[Wn,b]
   have h:(((zN (s.drop at_) j j).toNat:Nat):Int)=zN (s.drop at_) j j:=aa
   have a:zl (s.drop at_) 1=(.ret,⟨[(4,.flat (.int .i64 (zN (s.drop at_) j j))),(5,.flat (.int .i64 (j:Nat)))],[],[],[]⟩):=by
    unfold zl;rw[show 5 - 1=4 from rfl,b]
   rw[a]at e;simp only[lj,mj,n1]at e;rw[hr];dsimp only;rw[h];exact ta
  |none=>
   have hr:Wn (s.drop at_)=(65533,1):=by
    rw[d]at b⊢;simp only[Wn,b]
   have a:zl (s.drop at_) 1=(.exit 0,⟨[],[],[],[]⟩):=by
    unfold zl;rw[show 5 - 1=4 from rfl,b]
   rw[a]at e;simp only[lj,mj,n1]at e;rw[hr];exact va @Hi
 ·have c1:(s.length:Int)<=(at_:Nat):=aa
  have hr:Wn (s.drop at_)=(0,0):=by rw[List.drop_eq_nil_of_le aa];rfl
  rw[hr];exact ta
theorem b8(n:Nat)(h:n<256):(UInt8.ofNat n).toNat=n:=by grind [UInt8.toNat_ofNat']
def T1{n}(h:ee n=true):n<=1114111:=by grind [ee]
theorem Rx(n)(d:ee n=true)(t):Cb ((Xg n).map UInt8.ofNat++t)=(n,(Xg n).length):=by
 have e:=T1 d;unfold Xg;by_cases a:n<128
 ·grind [Cb,b8]
 ·by_cases b:n<2048
  ·grind [Cb,b8,Kb,bh]
  ·by_cases c:n<65536
   ·grind [Cb,b8,Kb,bh]
   ·simp only[a,b,c,if_false,kc,Bf,ub,Gb,za,ya]
    simp only[Cb,b8 (240+n/262144) aa];rw[if_neg aa,if_neg aa,if_neg aa,if_pos aa];have g:Kb (UInt8.ofNat (128+n/4096 % 64)::UInt8.ofNat (128+n/64 % 64)::UInt8.ofNat (128+n % 64)::t) (240+n/262144 - 240) 3=(n,true):=by
     simp only[Kb,b8 (128+n % 64) aa,b8 (128+n/64 % 64) aa,b8 (128+n/4096 % 64) aa];rw[if_pos aa,if_pos aa,if_pos aa];exact Prod.ext aa rfl
    grind [bh]
theorem zdx{l}{k}(h:lh l k=true)(a:k<=l.length):Cb l=((zN l k k).toNat,k):=by
 grind [lh,ob,List.take_append_drop,Rx]
theorem Nn(c)(n:Nat)(h:c.toNat=n):UInt8.ofNat n=c:=by grind [UInt8.ofNat_toNat]
theorem JY(c)(t:ba):Cb (c::t)=(65533,1)\/∃k,1<=k/\k<=4/\k<=(c::t).length/\lh (c::t) k=true:=by
 have u:=c.toNat_lt;have li:∀n k:Nat,zN (c::t) k k=(n:Int)->ee n=true->ob n=(c::t).take k->lh (c::t) k=true:=fun n k p j l=>by
  grind [lh]
 simp only[Cb];by_cases p:c.toNat<128
 ·right
  refine⟨1,aa,aa,da,li c.toNat 1 ?_ ?_ ?_⟩
  ·rfl
  ·grind [ee]
  grind [ee,ob,Xg,Nn]
 ·rw[if_neg p]
  by_cases j:192<=c.toNat/\c.toNat<224
  ·rw[if_pos j]
   unfold bh;split
   ·rename_i h
    obtain⟨g1,a,g3⟩:=h;right
    match t,g1,a,g3 with
    |b::t,g1,a,g3=>
     simp only[Kb]at g1 a g3;split at g1
     case isFalse=>cases g1
     rename_i g;rw[if_pos g]at a g3;dsimp only at a g3;obtain⟨n,i⟩:∃n,(c.toNat - 192)* 64+(b.toNat - 128)=n:=⟨_,rfl⟩;rw[i]at a g3;refine⟨2,aa,aa,da,li n 2 ?_ g3 ?_⟩
     ·grind [zN,hl]
     grind [ob,Xg,Nn]
   simp
  ·rw[if_neg j]
   by_cases l:224<=c.toNat/\c.toNat<240
   ·rw[if_pos l]
    unfold bh;split
    ·rename_i h
     obtain⟨g1,a,g3⟩:=h;right
     match t,g1,a,g3 with
     |[b],g1,a,g3=>grind [Kb]
     |b::d::t,g1,a,g3=>
      simp only[Kb]at g1 a g3;split at g1
      case isFalse=>cases g1
      rename_i g;rw[if_pos g]at a g3;split at g1
      case isFalse=>cases g1
      rename_i o;rw[if_pos o]at a g3;dsimp only at a g3;obtain⟨n,i⟩:∃n,((c.toNat - 224)* 64+(b.toNat - 128))* 64+(d.toNat - 128)=n:=⟨_,rfl⟩;rw[i]at a g3;refine⟨3,aa,aa,da,li n 3 ?_ g3 ?_⟩
      ·grind [zN,hl]
      ·unfold ob Xg
       rw[if_pos g3,if_neg aa,if_neg aa,if_pos aa];simp[Nn c (224+n/4096) aa,Nn b (128+n/64 % 64) aa,Nn d (128+n % 64) aa]
    simp
   ·rw[if_neg l]
    by_cases q:240<=c.toNat/\c.toNat<248
    ·rw[if_pos q]
     unfold bh;split
     ·rename_i h
      obtain⟨g1,a,g3⟩:=h;right
      match t,g1,a,g3 with
      |[b],g1,a,g3=>grind [Kb]
      |[b,d],g1,a,g3=>grind [Kb]
      |b::d::e::t,g1,a,g3=>
       simp only[Kb]at g1 a g3;split at g1
       case isFalse=>cases g1
       rename_i g;rw[if_pos g]at a g3;split at g1
       case isFalse=>cases g1
       rename_i o;rw[if_pos o]at a g3;split at g1
       case isFalse=>cases g1
       rename_i r;rw[if_pos r]at a g3;dsimp only at a g3;obtain⟨n,i⟩:∃n,(((c.toNat - 240)* 64+(b.toNat - 128))* 64+(d.toNat - 128))* 64+(e.toNat - 128)=n:=⟨_,rfl⟩;rw[i]at a g3;refine⟨4,aa,aa,da,li n 4 ?_ g3 ?_⟩
       ·grind [zN,hl]
       ·unfold ob Xg
        rw[if_pos g3,if_neg aa,if_neg aa,if_neg aa];simp[Nn c (240+n/262144) aa,Nn b (128+n/4096 % 64) aa,Nn d (128+n/64 % 64) aa,Nn e (128+n % 64) aa]
     simp
    grind
theorem WN{l}{j}(ht:lh l j=true)(c:j<=4)(e:j<=l.length):∀n k,k<=j->j<k+n->jj l n k≠none
 |0,k,a,b=>by omega
 |n+1,k,a,b=>by
  simp only[jj];rw[if_pos ⟨aa,aa⟩];by_cases d:lh l k=true
  ·grind
  ·rw[if_neg d]
   refine WN ht c e n (k+1) ?_ aa
   grind
theorem r_:∀l,Wn l=Cb l
 |[]=>rfl
 |c::t=>by
  grind [Wn,kD,zdx,JY,WN]
variable {lib:Callee}
def eG(s)(at_:Nat)(hs:Sm s)(a:at_<=s.length):fa code lib 71 [.flat (.string (S s)),.flat (.int .i64 (at_:Nat))] [] []=some ([.flat (.int .i64 ((Cb (s.drop at_)).1:Nat)),.flat (.int .i64 ((Cb (s.drop at_)).2:Nat))],false,[],[]):=by
 rw[<-r_];exact Y6 s at_ hs a
theorem cA(l:ba)(k)(h:k<l.length):We (l.drop k)=Cb (l.drop k)::We (l.drop (k+(Cb (l.drop k)).2))/\1<=(Cb (l.drop k)).2/\k+(Cb (l.drop k)).2<=l.length/\(Cb (l.drop k)).1<8388608/\(Cb (l.drop k)).2<=4:=by
 grind [List.drop_eq_getElem_cons,Wr,gN,Qx,List.drop_drop,dA]
def Jf(l:List Nat):List PV:=l.map fun r=>.flat (.int .i64 (r:Nat))
def EO{l}:(Jf l).length=l.length:=by simp[Jf]
theorem J1{a b}:Jf a++Jf b=Jf (a++b):=by simp[Jf]
theorem FO:∀a,Ad (Jf a)=true
 |[]=>rfl
 |c::a=>by show Ad (.flat (.int .i64 (c:Nat))::Jf a)=true;rw[Ev,FO a];rfl
def av(s:ba)(q:List Nat×Nat):St:=⟨[(0,.flat (.string (S s))),(3,.ha q.1.length (Jf q.1)),(4,.flat (.int .i64 (q.2:Nat)))],[.slot 3],[],[]⟩
def Q_(s)(hs:s.length<4294967296):fa code lib 69 [.flat (.string (S s))] [] []=some ([.ha (Ng s).length (Jf (Ng s))],false,[],[]):=by
 refine ma kX (qa rfl) ?_;have c:Sm s:=by unfold Sm;omega
 have b:=wh (body:=pa (fa code lib) ka rB) (live:=[0,3,4]) (nb:=0) (av s) (fun q=>q.1.length<=q.2/\q.2<=s.length) (fun q=>s.length - q.2)
  (fun q=>(.exit 0,⟨[(3,.ha (q.1++Ng (s.drop q.2)).length (Jf (q.1++Ng (s.drop q.2))))],[.slot 3],[],[]⟩)) (fun⟨out,k⟩ ⟨h,e⟩=>?_) (n:=ka) (a:=([],0)) ⟨la _,Za _⟩ (by grind [ka])
 ·simp only[av,Af,Gb,ya]at b
  have d:Jf []=[]:=rfl;simp only[d,n0]at b;exact ta
 ·dsimp only at h e⊢
  have e1:=eG (lib:=lib) s k c e;by_cases ea:k<s.length
  ·right
   obtain⟨hr,g1,d,g3,g4⟩:=cA s k ea;obtain⟨q,i⟩:∃q,Cb (s.drop k)=q:=⟨_,rfl⟩;rw[i]at e1 hr g1 d g3 g4;have c1:(k:Int)<s.length:=aa
   have j:IntKind.i64.wrap ((k:Int)+(q.2:Nat))=((k+q.2:Nat):Int):=wrap64 aa;have g:out.length+1<=Da:=Me
   have l:[PV.flat (.int .i64 (q.1:Nat))]=Jf [q.1]:=rfl;refine⟨⟨[(0,.flat (.string (S s))),(3,.ha (out.length+1) (Jf (out++[q.1]))),(4,.flat (.int .i64 ((k+q.2:Nat):Int)))],[.slot 3],[],[]⟩,(out++[q.1],k+q.2),?_,?_,⟨Sa,d⟩,aa,?_⟩
   ·simp only[nR,av,go_sem,simprocAttr,c1,Na,e1,EO,FO,g,j]
    grind [J1]
   ·exact Rc @av.eq_1 @Ja.{0}
   grind [Ng]
  ·left
   obtain rfl:k=s.length:=aa
   have c1:¬(s.length:Int)<s.length:=aa
   refine⟨.exit 0,⟨[(3,.ha out.length (Jf out))],[.slot 3],[],[]⟩,?_,da,?_⟩
   ·exact Rc nR @av.eq_1
   ·have:Ng (s.drop s.length)=[]:=by rw[Kp];rfl
    grind
def dP(s)(c:Sm s):fa code lib 110 [.flat (.string (S s))] [] []=some ([.flat (.bool (ni s))],false,[],[]):=by
 refine ma hX (qa rfl) ?_;have hs:=c;unfold Sm at hs
 have b:=wh (body:=pa (fa code lib) ka oB) (live:=[0,3]) (nb:=0) (fun k:Nat=>(⟨[(0,.flat (.string (S s))),(3,.flat (.int .i64 (k:Nat)))],[],[],[]⟩:St)) (fun k=>k<=s.length) (fun k=>s.length - k)
  (fun k=>if ni (s.drop k)then(.exit 0,⟨[],[],[],[]⟩)else(.ret,⟨[(2,.flat (.bool false))],[],[],[]⟩)) (fun k o=>?_) (n:=ka) (a:=0) (Za _) (by grind [ka])
 ·simp only[Af,n0]at b
  cases d:ni s with
  |true=>
   simp only[d,if_true]at b;exact ta
  |false=>
   simp only[d,Fa,if_false]at b;exact ta
 ·have e1:=eG (lib:=lib) s k c o
  by_cases ea:k<s.length
  ·obtain⟨hr,g1,h,g3,g4⟩:=cA s k ea
   obtain⟨q,p⟩:∃q,Cb (s.drop k)=q:=⟨_,rfl⟩;rw[p]at e1 hr g1 h g3 g4;have d:ni (s.drop k)=(!Dg q&&ni (s.drop (k+q.2))):=by unfold ni;rw[hr,Mm]
   have c1:(k:Int)<s.length:=aa
   have r:IntKind.i64.wrap ((k:Int)+(q.2:Nat))=((k+q.2:Nat):Int):=wrap64 aa;by_cases i:q.1=65533
   ·have e:((q.1:Nat):Int)=65533:=aa
    by_cases j:q.2=1
    ·have g:((q.2:Nat):Int)=1:=aa
     left;have l:Dg q=true:=by simp[Dg,i,j]
     refine⟨.ret,⟨[(2,.flat (.bool false))],[],[],[]⟩,?_,da,ia⟩;exact va Ez
    ·have g:¬((q.2:Nat):Int)=1:=aa
     right;have l:Dg q=false:=by simp[Dg,j]
     refine⟨⟨[(0,.flat (.string (S s))),(3,.flat (.int .i64 ((k+q.2:Nat):Int)))],[],[],[]⟩,k+q.2,?_,?_,h,aa,ia⟩
     ·exact va Ez
     ·exact ta
   ·have e:¬((q.1:Nat):Int)=65533:=aa
    right;have l:Dg q=false:=by simp[Dg,i]
    refine⟨⟨[(0,.flat (.string (S s))),(3,.flat (.int .i64 ((k+q.2:Nat):Int)))],[],[],[]⟩,k+q.2,?_,?_,h,aa,ia⟩
    ·exact va Ez
    ·exact ta
  ·left
   obtain rfl:k=s.length:=aa
   have c1:¬(s.length:Int)<s.length:=aa
   have d:ni (s.drop s.length)=true:=by rw[Kp];rfl
   refine⟨.exit 0,⟨[],[],[],[]⟩,?_,da,ia⟩;exact va Ez
def lq(l:ba)(a:qr):ba:=(Se (Be l) a (We (l.drop a.at_))).1.out
def DW(l)(a)(h:a.at_<l.length):lq l a=lq l (Be l a (Cb (l.drop a.at_))).1:=by
 grind [cA,lq,Se,rT,DH]
def Fi(s:ba)(a:qr):St:=⟨[(0,.flat (.string (S s))),(3,.flat (.string (S a.out))),(4,.flat (.int .i64 (a.at_:Nat)))],[],[],[]⟩
def tC(s)(hs:s.length<1000000000):fa code lib 34 [.flat (.string (S s))] [] []=some ([.flat (.string (S (Lh s)))],false,[],[]):=by
 refine ma gX (qa rfl) ?_;have p:Sm s:=by unfold Sm;omega
 have e:=wh (body:=pa (fa code lib) ka nB) (live:=[0,3,4]) (nb:=0) (Fi s) (fun a=>a.at_<=s.length/\a.out.length<=4* a.at_) (fun a=>s.length - a.at_)
  (fun a=>(.exit 0,⟨[(3,.flat (.string (S (lq s a))))],[],[],[]⟩)) (fun a ⟨E,b⟩=>?_) (n:=ka) (a:=⟨0,false,[]⟩) ⟨Za _,la _⟩ (by grind [ka])
 ·have b:lq s ⟨0,false,[]⟩=Lh s:=rfl
  have d:(⟨#[]⟩:ByteArray)=S []:=rfl;simp only[Fi,b,n0]at e;exact ta
 ·have e1:=eG (lib:=lib) s a.at_ p E
  by_cases ea:a.at_<s.length
  ·right
   obtain⟨hr,g1,w,g3,g4⟩:=cA s a.at_ ea;have j:=DW s a ea;obtain⟨q,G⟩:∃q,Cb (s.drop a.at_)=q:=⟨_,rfl⟩;rw[G]at e1 hr g1 w g3 g4 j;have F:=qT s a q;have d:=DH s a q;refine⟨Fi s (Be s a q).1,(Be s a q).1,?_,by simp only[Fi,go_sem,simprocAttr],⟨by rw[d];exact w,by rw[d];omega⟩,by rw[d];omega,by rw[j]⟩;have c1:(a.at_:Int)<s.length:=aa
   have A:IntKind.i64.wrap ((a.at_:Int)+(q.2:Nat))=((a.at_+q.2:Nat):Int):=wrap64 aa;have z:∀m:Nat,a.out.length+(ob m).length<=Da:=fun m=>by grind [Tj,Da]
   have i:=fun n:Nat=>iq (lib:=lib) n
   have r:fa code lib 72 [.flat (.int .i64 10)] [] []=some ([.flat (.string (S (ob 10)))],false,[],[]):=iq 10;have B:fa code lib 72 [.flat (.int .i64 65533)] [] []=some ([.flat (.string (S (ob 65533)))],false,[],[]):=iq 65533;by_cases r1:q.1=13
   ·have g:((q.1:Nat):Int)=13:=aa
    have x:kh 10=10:=ga
    by_cases v:a.at_+q.2<s.length
    ·have b:((a.at_+q.2:Nat):Int)<s.length:=aa
     obtain⟨c,t⟩:∃c,s[a.at_+q.2]?=some c:=⟨_,qe v⟩;have z0:(0:Int)<=((a.at_+q.2:Nat):Int):=aa
     by_cases l:c=10
     ·subst l
      have k:vh s q a.at_=true:=by simp[vh,r1,t]
      have o:(((10:UInt8).toNat:Nat):Int)=10:=rfl;exact Zf vm @Fi.eq_1 @Be.eq_1
     ·have k:vh s q a.at_=false:=by simp[vh,t,l]
      have o:¬((c.toNat:Nat):Int)=10:=fun h=>by
       have u:c.toNat=(10:UInt8).toNat:=by have:(10:UInt8).toNat=10:=rfl;omega
       exact l (Yb.1 u)
      exact me vm @Fi.eq_1 @Be.eq_1 @r1
    ·have b:¬((a.at_+q.2:Nat):Int)<s.length:=aa
     have l:s[a.at_+q.2]?=none:=Ie aa;have k:vh s q a.at_=false:=by simp[vh,l]
     exact me vm @Fi.eq_1 @Be.eq_1 @r1
   ·have g:(((q.1:Nat):Int)=13)=False:=by apply propext;simp only[iff_false];omega
    have k:vh s q a.at_=false:=by simp[vh,r1]
    have t:(((q.1:Nat):Int)<32)=(q.1<32):=by apply propext;omega
    have u:(((q.1:Nat):Int)=9)=(q.1=9):=by apply propext;omega
    have C:(((q.1:Nat):Int)=10)=(q.1=10):=by apply propext;omega
    have v:((127:Int)<=(q.1:Nat))=(127<=q.1):=by apply propext;omega
    have H:(((q.1:Nat):Int)<=159)=(q.1<=159):=by apply propext;omega
    have sh:kh q.1=if(q.1<32/\q.1≠9/\q.1≠10)\/(127<=q.1/\q.1<160)then 65533 else q.1:=rfl
    by_cases x:q.1<32
    ·by_cases y:q.1=9
     ·have b:kh q.1=q.1:=by rw[sh,if_neg aa]
      have o:=eq_true y;have l:¬127<=q.1:=aa
      simp only[vm,Fi,Be,k,r1,g,c1,A,Na,Zi,e1,t,u,v,x,o,l,b,i,z,go_sem,simprocAttr]
     ·by_cases D:q.1=10
      ·have b:kh q.1=q.1:=by rw[sh,if_neg aa]
       have o:=eq_true D;have l:¬127<=q.1:=aa
       simp only[vm,Fi,Be,k,r1,g,c1,A,Na,Zi,e1,t,u,C,v,x,y,o,l,b,i,z,go_sem,simprocAttr]
      ·have b:kh q.1=65533:=by rw[sh,if_pos aa]
       exact me vm @Fi.eq_1 @Be.eq_1 @r1
    ·by_cases l:127<=q.1
     ·by_cases o:q.1<=159
      ·have b:kh q.1=65533:=by rw[sh,if_pos aa]
       exact me vm @Fi.eq_1 @Be.eq_1 @r1
      ·have b:kh q.1=q.1:=by rw[sh,if_neg aa]
       exact me vm @Fi.eq_1 @Be.eq_1 @r1
     ·have b:kh q.1=q.1:=by rw[sh,if_neg aa]
      exact me vm @Fi.eq_1 @Be.eq_1 @r1
  ·left
   have b:a.at_=s.length:=aa
   have c1:¬(a.at_:Int)<s.length:=aa
   refine⟨.exit 0,⟨[(3,.flat (.string (S a.out)))],[],[],[]⟩,?_,da,?_⟩
   ·exact Rc vm @Fi.eq_1
   ·have:lq s a=a.out:=by unfold lq;rw[b,Kp];rfl
    grind
def Yf{α:Type}(c:UInt8)(step:α->ba->α×Bool):Nat->α->ba->α×ba
 |0,a,r=>(a,r)
 |n+1,a,r=>match Zb c r with
  |none=>((step a r).1,r)
  |some i=>if(step a (r.take i)).2 then Yf c step n (step a (r.take i)).1 (r.drop (i+1))else((step a (r.take i)).1,r)
theorem bO{α}{c}{step}:∀(n m)(a:α)(r),r.length<n->r.length<m->Yf c step n a r=Yf c step m a r
 |0,m,a,r,h,_=>by omega
 |n+1,0,a,r,_,h=>by omega
 |n+1,m+1,a,r,d,e=>by
  simp only[Yf];cases b:Zb c r with
  |none=>rfl
  |some i=>
   have:=Dr b;dsimp only;rw[bO n m _ _ ia ia]
theorem aO{α}{c}{step}:∀(n)(a:α)(r),r.length<n->(Yf c step n a r).1=(Se step a (gb c r)).1
 |0,a,r,h=>by omega
 |n+1,a,r,h=>by
  simp only[Yf];cases b:Zb c r with
  |none=>
   grind [Mx,Se]
  |some i=>
   have:=Dr b;rw[Nx b];simp only[Se];split
   ·exact aO n _ _ ia
   ·rfl
theorem r9{α}(H:Cf lib)(c)(BX:α->ba->Ha)(oc:α->List (Nat×Nat))(step)(I:α->ba->Prop)(b p C nb)
 (w:∀a r,I a r->(BX a r)[p]?=some (9,[.flat (.string (S r))])) (k:∀a r,I a r->(BX a r)[C]?=some (5,[.flat (.int .u8 c.toNat)])) (A:∀a r r',(BX a r).set p (9,[.flat (.string (S r'))])=BX a r')
 (N:∀a r,(BX a r)[p]?=some (9,[.flat (.string (S r))])) (d:∀a r,(BX a r).length=nb) (y:∀a,∀q∈oc a,q.1<nb) (z:∀a,∀q∈oc a,q≠(p,0)) (v:∀a r,I a r->r.length<=1000000000)
 (K:∀a r i,I a r->Zb c r=some i->(step a (r.take i)).2=true->I (step a (r.take i)).1 (r.drop (i+1)))
 (J:∀a r x,I a r->fa code lib hb [.Ma b,.flat (.string (S x))] (BX a r) (cl (oc a))=some ([.flat (.bool (step a x).2)],false,BX (step a x).1 r,cl (oc (step a x).1))) (a) (r) (h:I a r):
 fa code lib 149 [.Ma b,.ptr p 0,.ptr C 0] (BX a r) (cl (oc a))=some ([],false,BX (Yf c step (r.length+1) a r).1 (Yf c step (r.length+1) a r).2,cl (oc (Yf c step (r.length+1) a r).1)):=by
 refine ma PX (qa rfl) ?_;have M:=v a r h
 have l:=wh (body:=pa (fa code lib) ka OB) (live:=[0,1,2]) (nb:=nb) (fun q:α×ba=>(⟨[(0,.Ma b),(1,.ptr p 0),(2,.ptr C 0)],cl (oc q.1),[],BX q.1 q.2⟩:St)) (fun q=>I q.1 q.2) (fun q=>q.2.length)
  (fun q=>(.ret,⟨[],cl (oc (Yf c step (q.2.length+1) q.1 q.2).1),[],BX (Yf c step (q.2.length+1) q.1 q.2).1 (Yf c step (q.2.length+1) q.1 q.2).2⟩)) (fun⟨a,r⟩ h=>?_) (n:=ka) (a:=(a,r)) h (by grind [ka])
 ·have o:=d a r
  have t:=d (Yf c step (r.length+1) a r).1 (Yf c step (r.length+1) a r).2;simp only[go_sem,simprocAttr,xb,cb,wb,pb,Mc o,o,db _ (y _),l,t,Mc t]
 ·dsimp only at h⊢
  have E:=w a r h;have j:=k a r h;have o:=d a r;have L:=v a r h;have e1:=dl H r c L;cases u:Zb c r with
  |none=>
   left;rw[u]at e1;have e:=J a r r h;have t:=d (step a r).1 r;have B:Yf c step (r.length+1) a r=((step a r).1,r):=by simp only[Yf,u]
   rw[B];refine⟨.ret,⟨[],cl (oc (step a r).1),[],BX (step a r).1 r⟩,?_,da,rfl⟩;simp only[DG,go_sem,simprocAttr,xb,cb,wb,pb,Bb,E,j,e1,e,o,ic]
  |some i=>
   rw[u]at e1;have ea:=Dr u;have e:=J a r (r.take i) h;have t:=d (step a (r.take i)).1 r;have B:Yf c step (r.length+1) a r=if(step a (r.take i)).2 then Yf c step ((r.drop (i+1)).length+1) (step a (r.take i)).1 (r.drop (i+1))else((step a (r.take i)).1,r):=by
    simp only[Yf,u];rw[bO r.length ((r.drop (i+1)).length+1) _ _ ia aa];simp only[Yf]
   have G:¬(i:Int)<0:=aa
   have c1:(0:Int)<=(i:Nat):=aa
   have c2:(i:Int)<=r.length:=aa
   have P:IntKind.i64.wrap ((i:Int)+1)=((i+1:Nat):Int):=wrap64 aa;have c3:(0:Int)<=((i+1:Nat):Int):=aa
   have c4:((i+1:Nat):Int)<=r.length:=aa
   have O:(r.take r.length).drop (i+1)=r.drop (i+1):=by rw[Eh]
   have F:=N (step a (r.take i)).1 r;by_cases g:(step a (r.take i)).2=true
   ·right
    rw[g]at e B;have D:=d (step a (r.take i)).1 (r.drop (i+1));refine⟨⟨[(0,.Ma b),(1,.ptr p 0),(2,.ptr C 0)],cl (oc (step a (r.take i)).1),[],BX (step a (r.take i)).1 (r.drop (i+1))⟩,((step a (r.take i)).1,r.drop (i+1)),?_,?_,K a r i h u g,ia,?_⟩
    ·simp only[DG,go_sem,simprocAttr,xb,cb,wb,pb,Bb,Hf _ (z _),E,j,F,e1,e,G,c1,c2,c3,c4,P,Na,Tg,O,A,cc,o,t,D,ic]
    ·simp only[go_sem,simprocAttr,xb,cb,Mc D,D,db _ (y _)]
    grind
   ·left
    have g:(step a (r.take i)).2=false:=by simpa using g
    rw[g]at e B;refine⟨.ret,⟨[],cl (oc (step a (r.take i)).1),[],BX (step a (r.take i)).1 r⟩,?_,da,?_⟩
    ·simp only[DG,go_sem,simprocAttr,xb,cb,wb,pb,Bb,E,j,e1,e,G,c1,c2,Na,Tg,cc,o,t,ic]
    grind
def Lr(c:UInt8)(out:List ba)(r:ba):Ha:=[(29,[.ha out.length (ua out)]),(9,[.flat (.string (S r))]),(5,[.flat (.int .u8 c.toNat)]),(0,[.lp 41 0 .ready [5] [.ptr 0 0]])]
def yt(out:List ba)(x:ba):List ba×Bool:=(out++[x],true)
theorem ZN:∀(L out),Se yt out L=(out++L,true)
 |[],out=>by simp[Se]
 |q::L,out=>by simp only[Se,yt,if_true];rw[ZN L];simp
def AY(c)(out)(r x)(d:out.length<4294967296):fa code lib hb [.Ma 3,.flat (.string (S x))] (Lr c out r) [.cell 0 0]=some ([.flat (.bool true)],false,Lr c (out++[x]) r,[.cell 0 0]):=by
 refine fs Rr DM rfl rfl rfl ?_;have a:out.length+1<=Da:=Me
 have b:[PV.flat (.string (S x))]=ua [x]:=rfl;simp only[zO,oO,Lr,go_sem,simprocAttr,bc,Xe,a]
 grind [Al]
def VM(H:Cf lib)(s:ba)(c:UInt8)(hs:s.length<=1000000000):fa code lib 41 [.flat (.string (S s)),.flat (.int .u8 c.toNat)] [] []=some ([.ha (gb c s).length (ua (gb c s))],false,[],[]):=by
 refine ma DM (qa rfl) ?_
 have b:=r9 (lib:=lib) H c (Lr c) (fun _=>[(0,0)]) yt (fun out r=>out.length+r.length<=1000000000) 3 1 2 4 (fun _ _ _=>rfl) (fun _ _ _=>rfl) (fun _ _ _=>rfl) (fun _ _=>rfl) (fun _ _=>rfl) (fun a q n=>by grind) (fun a q n=>by grind) (fun a r h=>by omega)
  (fun a r i h l _=>by
    have:=Dr l
    grind [yt])
  (fun a r x h=>AY c a r x aa) [] s ia
 have d:=aO (c:=c) (step:=yt) (s.length+1) [] s aa;rw[ZN]at d;simp only[Gb]at d;obtain⟨j,e⟩:∃j,(Yf c yt (s.length+1) [] s).2=j:=⟨_,rfl⟩;have k:cl [(0,0)]=[.cell 0 0]:=rfl;rw[d,e]at b;simp only[k]at b;have g:fa code lib 149 [.Ma 3,.ptr 1 0,.ptr 2 0] [(29,[.ha 0 []]),(9,[.flat (.string (S s))]),(5,[.flat (.int .u8 c.toNat)]),(0,[.lp 41 0 .ready [5] [.ptr 0 0]])] [.cell 0 0]=some ([],false,Lr c (gb c s) j,[.cell 0 0]):=b;have e1:fa code lib 88 [.flat (.string (S s)),.flat (.int .u8 c.toNat)] [(29,[.ha 0 []])] [.cell 0 0]=some ([.fb 149 [.ptr 1 0,.ptr 2 0]],false,[(29,[.ha 0 []]),(9,[.flat (.string (S s))]),(5,[.flat (.int .u8 c.toNat)])],[.cell 0 0]):=by
  refine ma EM (qa rfl) ?_;exact ta
 have e2:fa code lib 88 [.flat (.string (S s)),.flat (.int .u8 c.toNat)] [] []=some ([.fb 149 [.ptr 0 0,.ptr 1 0]],false,[(9,[.flat (.string (S s))]),(5,[.flat (.int .u8 c.toNat)])],[]):=by
  refine ma EM (qa rfl) ?_;exact ta
 exact Rc @Lr.eq_1 @yf
def SR(H:sd lib)(s p)(h:s.length<=1000000000)(a:p.length<=1000000000):fa code lib 80 [.flat (.string (S s)),.flat (.string (S p))] [] []=some ([.flat (.bool (p.isPrefixOf s))],false,[],[]):=
 Ud ga ja (H s p h a)
def KJ(H:sd lib)(s w)(k:Nat)(hs:s.length<=1000000000)(a:w.length<=1000000000):fa code lib 85 [.flat (.string (S s)),.flat (.string (S w)),.flat (.int .i64 (k:Nat))] [] []=some ([.flat (.bool (Wa s w k))],false,[],[]):=by
 refine ma OX (qa rfl) ?_;have b:(0:Int)<=(k:Nat):=aa
 by_cases h:k<=s.length
 ·have c1:(k:Int)<=s.length:=aa
  have e1:=SR H (s.drop k) w ia a;have c:(s.take s.length).drop k=s.drop k:=by rw[Eh]
  exact va @Wa.eq_1
 ·have c1:¬(k:Int)<=s.length:=aa
  exact va @Wa.eq_1
def Ln(c:UInt8):Bool:=!((decide ((c.toNat|||32)<97)||decide (122<(c.toNat|||32)))&&((decide (c.toNat<48)||decide (57<c.toNat))&& !decide (c.toNat=45)))
def Dn(s:ba)(k:Nat):St:=⟨[(0,.flat (.string (S s))),(6,.flat (.int .i64 (s.length:Nat))),(7,.flat (.int .i64 (k:Nat)))],[],[],[]⟩
def Q6(s)(k)(c)(v:k<s.length)(hs:s.length<=1000000000)(p:s[k]?=some c):pa (fa code lib) ka fx (Dn s k)=if Ln c then some (.normal,Dn s (k+1))else some (.ret,⟨[(2,.flat (.bool false))],[],[],[]⟩):=by
 have c1:(k:Int)<s.length:=aa
 have c2:(0:Int)<=(k:Nat):=aa
 have u:IntKind.i64.wrap ((k:Int)+1)=((k+1:Nat):Int):=wrap64 aa;have r:=c.toNat_lt;have a:Pk .u8 (c.toNat:Int) 32=((c.toNat|||32:Nat):Int):=u8_or c.toNat 32 aa aa;obtain⟨m,t⟩:∃m,c.toNat|||32=m:=⟨_,rfl⟩;obtain⟨n,b⟩:∃n,c.toNat=n:=⟨_,rfl⟩;unfold Ln;rw[t]at a⊢;rw[b]at a⊢;have g:((m:Int)<97)=(m<97):=by apply propext;omega
 have i:((122:Int)<m)=(122<m):=by apply propext;omega
 have j:((n:Int)<48)=(n<48):=by apply propext;omega
 have l:((57:Int)<n)=(57<n):=by apply propext;omega
 have o:((n:Int)=45)=(n=45):=by apply propext;omega
 by_cases d:m<97<;>by_cases e:122<m<;>by_cases a3:n<48<;>by_cases a4:57<n<;>by_cases a5:(n=45)=True
 all_goals first
  |(exfalso;omega)
  |skip
 all_goals
  first
   |(simp only[nG,Dn,go_sem,simprocAttr,c1,c2,Xc,cc,p,Kg,b,a,g,i,j,l,o,d,e,a3,a4,a5,u,Ip,Ch,Pm];done)
   |(have q:¬n=45:=fun h=>a5 (eq_true h)
     simp only[nG,Dn,go_sem,simprocAttr,c1,c2,Xc,cc,p,Kg,b,a,g,i,j,l,o,d,e,a3,a4,q,Ip,Ch,Pm])
def kf(s:ba):Bool:=s.all Ln&&(!decide (s=[])&&decide (s.length<=32))
def EQ(s)(hs:s.length<=1000000000):fa code lib 40 [.flat (.string (S s))] [] []=some ([.flat (.bool (kf s))],false,[],[]):=by
 refine ma WW (qa rfl) ?_
 have b:=wh (body:=pa (fa code lib) ka fx) (live:=[0,6,7]) (nb:=0) (Dn s) (fun k=>k<=s.length) (fun k=>s.length - k)
  (fun k=>if(s.drop k).all Ln then(.exit 0,⟨[(0,.flat (.string (S s)))],[],[],[]⟩)else(.ret,⟨[(2,.flat (.bool false))],[],[],[]⟩)) (fun k c=>?_) (n:=ka) (a:=0) (Za _) (by grind [ka])
 ·simp only[Dn,Af,n0]at b
  have g:(⟨#[]⟩:ByteArray)=S []:=rfl;cases d:s.all Ln with
  |true=>
   simp only[d,if_true]at b;by_cases e:s=[]
   ·have c:=eq_true e
    simp only[go_sem,simprocAttr,Na,b,g,xo,kf,d,c]
   ·by_cases h:s.length<=32
    ·have c:(s.length:Int)<=32:=aa
     exact va @kf.eq_1
    ·have c:¬(s.length:Int)<=32:=aa
     exact va @kf.eq_1
  |false=>
   simp only[d,Fa,if_false]at b;exact va @kf.eq_1
 ·by_cases ea:k<s.length
  ·have d:=qe ea
   have e:=ld ea;have hr:=Q6 (lib:=lib) s k s[k] ea hs d;cases c:Ln s[k]with
   |true=>
    right;rw[c,if_pos rfl]at hr;exact⟨Dn s (k+1),k+1,hr,by simp only[Dn,go_sem,simprocAttr],ea,aa,by rw[e,Mm,c,pc]⟩
   |false=>
    left;rw[c]at hr;exact⟨.ret,_,hr,da,ia⟩
  ·left
   obtain rfl:k=s.length:=aa
   have c1:¬(s.length:Int)<s.length:=aa
   refine⟨.exit 0,⟨[(0,.flat (.string (S s)))],[],[],[]⟩,?_,da,da⟩;exact Rc nG @Dn.eq_1
def jl(w:ba)(long:Nat):Bool:=decide (76<=w.length+long)
def xl(l w:ba)(long:Nat):ba:=(if jl w long then l++[13,10]else l)++(32::w)
def wl(w:ba)(long:Nat):Nat:=(if jl w long then 0 else long)+(1+w.length)
def O9(F:pe lib){bx}{r}{b e}{u}{l w}{long}(v:bx[b]?=some (e,bld u b l [.flat (.int .i64 (long:Nat))]))(M:nj e 3)(hs:l.length+w.length<=1000000000)(T:long<=1000000000)(hr:∀q∈r,q≠(b,1))(A:∀q∈r,q≠(b,2))(ea:∀q∈r,q.1<bx.length):
 fa code lib 164 [.ptr b 0,.flat (.string (S w))] bx (.cell b 1::cl r)=some ([],false,bx.set b (e,bld true b (xl l w long) [.flat (.int .i64 (wl w long:Nat))]),.cell b 1::cl r):=by
 refine ma VW (qa rfl) ?_;have g:=(qg v).1;have K:∃E,bx[b]?=some (e,E::.ha l.length (Yc l)::[.flat (.int .i64 (long:Nat))])/\(E=.ptr b 0\/E=.flat (.pointer none)):=by
  cases u
  ·exact⟨_,v,.inr rfl⟩
  ·exact⟨_,v,.inl rfl⟩
 obtain⟨E,x,z⟩:=K;have Q:IntKind.i64.wrap (76 - (long:Int))=76 - (long:Int):=wrap64 aa;have R:IntKind.i64.wrap (1+(w.length:Int))=((1+w.length:Nat):Int):=by rw[wrap64 aa];rfl
 have U:IntKind.i64.wrap ((long:Int)+((1+w.length:Nat):Int))=((long+(1+w.length):Nat):Int):=wrap64 aa;have V:IntKind.i64.wrap (0+((1+w.length:Nat):Int))=((0+(1+w.length):Nat):Int):=wrap64 aa;have L:(⟨#[13,10]⟩:ByteArray)=S [13,10]:=rfl;have B:(⟨#[32]⟩:ByteArray)=S [32]:=rfl;have C:1+w.length<=Da:=Me
 by_cases h:76<=w.length+long
 ·have G:76 - (long:Int)<=w.length:=aa
  have j:jl w long=true:=by simp[jl,h]
  have D:=Hl (lib:=lib) (r:=r) (m:=[13,10]) F v M (by grind [Da]) hr ea;obtain⟨c,H⟩:∃c,bx.set b (e,bld true b (l++[13,10]) [.flat (.int .i64 (long:Nat))])=c:=⟨_,rfl⟩;have J:c[b]?=some (e,.ptr b 0::.ha (l++[13,10]).length (Yc (l++[13,10]))::[.flat (.int .i64 (long:Nat))]):=by rw[<-H,yg g];rfl
  have N:c.length=bx.length:=by rw[<-H,Bc]
  obtain⟨d,I⟩:∃d,c.set b (e,.ptr b 0::.ha (l++[13,10]).length (Yc (l++[13,10]))::[.flat (.int .i64 0)])=d:=⟨_,rfl⟩;have y:d[b]?=some (e,bld true b (l++[13,10]) [.flat (.int .i64 0)]):=by rw[<-I,yg aa];rfl
  have O:d.length=bx.length:=by rw[<-I,Bc,N]
  have n:=Hl (lib:=lib) (r:=r) (m:=32::w) F y M (by grind [Da]) hr ia;obtain⟨a,o⟩:∃a,d.set b (e,bld true b (l++[13,10]++(32::w)) [.flat (.int .i64 0)])=a:=⟨_,rfl⟩;have p:a[b]?=some (e,.ptr b 0::.ha (l++[13,10]++(32::w)).length (Yc (l++[13,10]++(32::w)))::[.flat (.int .i64 0)]):=by rw[<-o,yg aa];rfl
  have P:a.length=bx.length:=by rw[<-o,Bc,O]
  have k:∀q,a.set b q=bx.set b q:=fun q=>by grind [List.set_set]
  rw[H]at D;rw[o]at n;have i:xl l w long=l++[13,10]++(32::w):=by simp only[xl,j,if_true]
  have t:wl w long=0+(1+w.length):=by simp only[wl,j,if_true]
  rw[i,t];rcases z with rfl|rfl<;>simp only[go_sem,simprocAttr,x,J,y,p,I,D,n,G,Q,R,V,L,B,C,Na,Zi,cb,wb,pb,Bb,Hf r A,db r ea,g,Bc,k,ic]
  all_goals (try rfl)
 ·have G:¬76 - (long:Int)<=w.length:=aa
  have j:jl w long=false:=by simp[jl,h]
  have n:=Hl (lib:=lib) (r:=r) (m:=32::w) F v M (by grind [Da]) hr ea;obtain⟨a,o⟩:∃a,bx.set b (e,bld true b (l++(32::w)) [.flat (.int .i64 (long:Nat))])=a:=⟨_,rfl⟩;have p:a[b]?=some (e,.ptr b 0::.ha (l++(32::w)).length (Yc (l++(32::w)))::[.flat (.int .i64 (long:Nat))]):=by rw[<-o,yg aa];rfl
  have P:a.length=bx.length:=by rw[<-o,Bc]
  have k:∀q,a.set b q=bx.set b q:=fun q=>by grind [List.set_set]
  rw[o]at n;have i:xl l w long=l++(32::w):=by simp only[xl,j,Fa,if_false]
  have t:wl w long=long+(1+w.length):=by simp only[wl,j,Fa,if_false]
  rw[i,t];rcases z with rfl|rfl<;>simp only[go_sem,simprocAttr,x,p,n,G,Q,R,U,B,C,Na,Zi,cb,wb,pb,Bb,Hf r A,db r ea,g,Bc,k,ic]
  all_goals (try rfl)
def MF:nj 236 3:=by unfold nj;kernel_rfl
def At(s:ba)(k:Nat)(c:UInt8)(long:Nat):Bool:=(decide (c.toNat=32)&&decide (long=0))||(decide (c.toNat<32)||(decide (126<c.toNat)||Wa s [61,63] k))
def oj(c:UInt8)(long:Nat):Nat:=if c.toNat=32 then 0 else long+1
def gp(s:ba)(q:Nat×Nat):St:=⟨[(0,.flat (.string (S s))),(3,.flat (.int .i64 (q.2:Nat))),(9,.flat (.int .i64 (s.length:Nat))),(10,.flat (.int .i64 (q.1:Nat)))],[],[],[]⟩
theorem plain_round(H:sd lib)(s)(k long)(c)(u:k<s.length)(hs:s.length<=1000000000)(v:long<=60)(p:s[k]?=some c):
 pa (fa code lib) ka cx (gp s (k,long))=if At s k c long||decide (60<oj c long)then some (.ret,⟨[(2,.flat (.bool false))],[],[],[]⟩)else some (.normal,gp s (k+1,oj c long)):=by
 have c1:(k:Int)<s.length:=aa
 have c2:(0:Int)<=(k:Nat):=aa
 have r:IntKind.i64.wrap ((k:Int)+1)=((k+1:Nat):Int):=wrap64 aa;have t:IntKind.i64.wrap ((long:Int)+1)=((long+1:Nat):Int):=wrap64 aa;have q:(⟨#[61,63]⟩:ByteArray)=S [61,63]:=rfl;have e:=KJ (lib:=lib) H s [61,63] k hs da;obtain⟨n,g⟩:∃n,c.toNat=n:=⟨_,rfl⟩;obtain⟨b,d⟩:∃b,Wa s [61,63] k=b:=⟨_,rfl⟩;unfold At oj;rw[d]at e⊢;rw[g];have h:((n:Int)=32)=(n=32):=by apply propext;omega
 have i:((n:Int)<32)=(n<32):=by apply propext;omega
 have j:((126:Int)<n)=(126<n):=by apply propext;omega
 have l:((long:Int)=0)=(long=0):=by apply propext;omega
 have o:((60:Int)<((long+1:Nat):Int))=(60<long+1):=by apply propext;omega
 have w:¬(n=32)->(n=32)=False:=eq_false;rcases Ka (n=32)with a|a<;>rcases Ka (n<32)with a2|a2<;>rcases Ka (126<n)with a3|a3<;>rcases Ka (long=0)with a4|a4<;>rcases Ka (60<long+1)with a5|a5<;>cases b
 all_goals first
  |(exfalso;omega)
  |skip
 all_goals
  first|have e1:=eq_false a|have e1:=eq_true a
  first|have e2:=eq_false a2|have e2:=eq_true a2
  first|have e3:=eq_false a3|have e3:=eq_true a3
  first|have e4:=eq_false a4|have e4:=eq_true a4
  first|have e5:=eq_false a5|have e5:=eq_true a5
  clear a a2 a3 a4 a5;simp only[kR,gp,go_sem,simprocAttr,c1,c2,Xc,cc,p,Kg,g,h,i,j,l,o,e1,e2,e3,e4,e5,r,t,q,e,n0,Ip,Pm]
def lm(s:ba)(k long:Nat):ba->Option Nat
 |[]=>some long
 |c::t=>if At s k c long||decide (60<oj c long)then none else lm s (k+1) (oj c long) t
def Un(s:ba):Bool:=decide (s=[])||(match lm s 0 0 s with|none=>false|some n=>decide (0<n))
def A9(H:sd lib)(s)(hs:s.length<=1000000000):fa code lib 230 [.flat (.string (S s))] [] []=some ([.flat (.bool (Un s))],false,[],[]):=by
 refine ma PW (qa rfl) ?_;have p:(⟨#[]⟩:ByteArray)=S []:=rfl;by_cases e:s=[]
 ·subst e
  exact va @Un.eq_1
 have b:=wh (body:=pa (fa code lib) ka cx) (live:=[0,3,9,10]) (nb:=0) (gp s) (fun q=>q.1<=s.length/\q.2<=60) (fun q=>s.length - q.1)
  (fun q=>match lm s q.1 q.2 (s.drop q.1)with|some n=>(.exit 0,⟨[(3,.flat (.int .i64 (n:Nat)))],[],[],[]⟩)|none=>(.ret,⟨[(2,.flat (.bool false))],[],[],[]⟩)) (fun q o=>?_) (n:=ka) (a:=(0,0)) ⟨Za _,Za _⟩ (by grind [ka])
 ·simp only[gp,Af,n0]at b
  have c:=eq_false e;simp only[Un,c,decide_false,Ch];cases g:lm s 0 0 s with
  |none=>
   simp only[g]at b;exact ta
  |some n=>
   simp only[g]at b;have d:((0:Int)<(n:Nat))=(0<n):=by apply propext;omega
   exact ta
 ·obtain⟨k,long⟩:=q
  obtain⟨j,g⟩:=o;simp only at j g;by_cases ea:k<s.length
  ·have h:=qe ea
   have i:=ld ea;have hr:=plain_round H s k long s[k] ea hs g h;cases c:At s k s[k] long||decide (60<oj s[k] long)with
   |false=>
    right;rw[c]at hr;have l:oj s[k] long<=60:=by simp only[Bool.or_eq_false_iff,decide_eq_false_iff_not]at c;omega
    exact⟨gp s (k+1,oj s[k] long),(k+1,oj s[k] long),hr,by simp only[gp,go_sem,simprocAttr],⟨ea,l⟩,by simp only;omega,by simp only[i,lm,c,Fa,if_false]⟩
   |true=>
    left;rw[c]at hr;exact⟨.ret,_,hr,da,by grind [lm]⟩
  ·left
   obtain rfl:k=s.length:=aa
   have c1:¬(s.length:Int)<s.length:=aa
   refine⟨.exit 0,⟨[(3,.flat (.int .i64 (long:Nat)))],[],[],[]⟩,?_,da,by grind [lm]⟩;exact Rc kR @gp.eq_1
variable {lib:Callee}
def ci(lib:Callee)(enc:ba->ba):Prop:=∀s:ba,s.length<=100->(enc s).length<=136/\lib 232 [.flat (.string (S s))] [] []=some ([.flat (.string (S (enc s)))],false,[],[])
def xJ{enc}(H:ci lib enc)(s:ba)(h:s.length<=100):fa code lib 232 [.flat (.string (S s))] [] []=some ([.flat (.string (S (enc s)))],false,[],[]):=
 Ud ga ja (H s h).2
def Jd:ba:=[61,63,85,84,70,45,56,63,66,63]
def Pe(enc:ba->ba)(g:ba):ba:=Jd++enc g++[63,61]
def Xk(enc:ba->ba):ba->List Nat->List ba
 |now,[]=>[Pe enc now]
 |now,r::l=>if 45<now.length+(ob r).length then Pe enc now::Xk enc (ob r) l else Xk enc (now++ob r) l
def Bg(enc:ba->ba)(s:ba):List ba:=if s=[]then[]else if Un s then gb 32 s else Xk enc [] (Ng s)
theorem Iu{enc}(H:ci lib enc){g}(h:g.length<=100):(Pe enc g).length<=200:=by
 have:=(H g h).1
 grind [Pe,Jd,List.length_cons]
theorem uD(enc):∀(l)(a),(Xk enc a l).length<=l.length+1
 |[],a=>by simp[Xk]
 |r::l,a=>by
  simp only[Xk];split
  ·have:=uD enc l (ob r);grind
  ·have:=uD enc l (a++ob r);grind
theorem Vr(c):∀s,(gb c s).length<=s.length+1
 |[]=>by simp[gb]
 |x::l=>by
  have:=Vr c l
  grind [gb]
theorem Ju(c):∀(s x),x∈gb c s->x.length<=s.length
 |[],x,h=>by grind [gb]
 |y::l,x,h=>by
  have:=Ju c l
  grind [gb]
theorem KS:∀(n)(s),s.length<=n->(We s).length<=s.length
 |_,[],_=>by simp[rH]
 |0,_::_,h=>by simp at h
 |n+1,c::l,h=>by
  have a:=Wr c l;have b:((c::l).drop (Cb (c::l)).2).length<=l.length:=by rw[Ya];simp only[za];omega
  have:=KS n ((c::l).drop (Cb (c::l)).2) ia
  grind [dA]
theorem LS:∀(n)(s),s.length<=n->∀q∈We s,q.1<8388608
 |_,[],_,q,a=>by grind [rH]
 |0,_::_,h,q,a=>by simp at h
 |n+1,c::l,h,q,a=>by
  have b:=Wr c l;rw[dA]at a;rcases Wb.1 a with rfl|a
  ·exact Qx _
  ·exact LS n _ ia q a
theorem gS:∀a,gc (vf a)=true
 |[]=>rfl
 |c::a=>by show gc (.flat (.int .i32 (c:Nat))::vf a)=true;simp only[gc,PV.pl,gS a,pc]
def lG(s):(Ng s).length<=s.length:=by
 unfold Ng;rw[Hj];exact KS _ s (la _)
def r7(s)(x)(h:x∈Ng s):x<8388608:=by
 unfold Ng at h;obtain⟨q,a,rfl⟩:=Ik.1 h;exact LS _ s (la _) q a
section
variable {α:Type} (BX:α→Ha) (oc:α→List (Nat × Nat)) (step:α→ba→α) (I:α→Nat→Prop) (b p nb:Nat)
def zen(c:∀a,(BX a).length=nb)(l:∀a,∀q∈oc a,q.1<nb)(N)
 (r:∀a k x,I a k->k<N->x.length<=10000->I (step a x) (k+1))
 (w:∀a k x,I a k->k<N->x.length<=10000->fa code lib hb [.Ma b,.flat (.string (S x))] (BX a) (cl (oc a))=some ([.flat (.bool true)],false,BX (step a x),cl (oc (step a x))))
 (L) (z:L.length<=N) (t:L.length<=1000000) (v:∀x∈L,x.length<=10000) (a) (d:I a 0) (A:L.length<ka):
 Fc (pa (fa code lib) ka gx) [0,14,15,16] nb ka ⟨[(0,.Ma b),(14,.ha L.length (ua L)),(15,.flat (.int .i64 (L.length:Nat))),(16,.flat (.int .i64 0))],cl (oc a),[],BX a⟩=
  some (.exit 0,⟨[],cl (oc (L.foldl step a)),[],BX (L.foldl step a)⟩):=by
 have j:=wh (body:=pa (fa code lib) ka gx) (live:=[0,14,15,16]) (nb:=nb) (fun q:α×Nat=>(⟨[(0,.Ma b),(14,.ha L.length (ua L)),(15,.flat (.int .i64 (L.length:Nat))),(16,.flat (.int .i64 (q.2:Nat)))],cl (oc q.1),[],BX q.1⟩:St)) (fun q=>I q.1 q.2/\q.2<=L.length) (fun q=>L.length - q.2)
  (fun q=>(.exit 0,⟨[],cl (oc ((L.drop q.2).foldl step q.1)),[],BX ((L.drop q.2).foldl step q.1)⟩)) (fun⟨a,k⟩ d=>?_) (n:=ka) (a:=(a,0)) ⟨d,Za _⟩ aa
 ·grind
 ·dsimp only at d⊢
  obtain⟨d,C⟩:=d;have g:=c a;by_cases ea:k<L.length
  ·right
   have B:=qe ea;have u:=ld ea;have e:=v _ (Qm ea);have c1:(k:Int)<L.length:=aa
   have c2:(0:Int)<=(k:Nat):=aa
   have y:IntKind.i64.wrap ((k:Int)+1)=((k+1:Nat):Int):=wrap64 aa;have o:(ua L).drop k=.flat (.string (S L[k]))::(ua L).drop (k+1):=by simp only[ua,<-Yi,u,kc]
   have i:1<=((ua L).drop (k+1)).length+1:=aa
   have p:=w a k L[k] d aa e;have h:=c (step a L[k]);refine⟨⟨[(0,.Ma b),(14,.ha L.length (ua L)),(15,.flat (.int .i64 (L.length:Nat))),(16,.flat (.int .i64 ((k+1:Nat):Int)))],cl (oc (step a L[k])),[],BX (step a L[k])⟩,(step a L[k],k+1),?_,?_,⟨r a k _ d aa e,ea⟩,aa,ia⟩
   ·simp only[lR,go_sem,simprocAttr,xb,cb,wb,pb,Bb,c1,c2,y,o,i,za,p,cc,Mc g,g,h,ic]
   ·simp only[go_sem,simprocAttr,xb,cb,Mc h,h,db _ (l _)]
  ·left
   obtain rfl:k=L.length:=aa
   have c1:¬(L.length:Int)<L.length:=aa
   refine⟨.exit 0,⟨[],cl (oc a),[],BX a⟩,?_,da,da⟩;simp only[lR,go_sem,simprocAttr,xb,cb,wb,pb,Bb,c1,Mc g,g,ic]
def ze(enc:ba->ba):α->ba->List Nat->α×ba
 |a,b,[]=>(a,b)
 |a,b,r::l=>if 45<b.length+(ob r).length then ze enc (step a (Pe enc b)) (ob r) l else ze enc a (b++ob r) l
theorem uy(enc):∀(l)(a)(b),(Xk enc b l).foldl step a=step (ze step enc a b l).1 (Pe enc (ze step enc a b l).2)
 |[],a,b=>rfl
 |r::l,a,b=>by
  simp only[Xk,ze];split
  ·rw[Jm];exact uy enc l _ _
  ·exact uy enc l _ _
theorem zeo{enc}(y:ci lib enc)(i:∀a,(BX a).length=nb)(u:∀a,∀q∈oc a,q.1<nb)(N)
 (F:∀a k x,I a k->k<N->x.length<=10000->I (step a x) (k+1))
 (W:∀a k x,I a k->k<N->x.length<=10000->fa code lib hb [.Ma b,.flat (.string (S x))] (BX a) (cl (oc a))=some ([.flat (.bool true)],false,BX (step a x),cl (oc (step a x))))
 (L) (Z:L.length<=N) (O:L.length<=1000000) (V:∀x∈L,x<2147483648) (a) (h:I a 0) (hNZ:L.length<ka):
 Fc (pa (fa code lib) ka hx) [0,5,26,27,28] nb ka ⟨[(0,.Ma b),(5,.flat (.string (S []))),(26,.ha L.length (vf L)),(27,.flat (.int .i64 (L.length:Nat))),(28,.flat (.int .i64 0))],cl (oc a),[],BX a⟩=
  some (.exit 2,⟨[(0,.Ma b),(5,.flat (.string (S (ze step enc a [] L).2)))],cl (oc (ze step enc a [] L).1),[],BX (ze step enc a [] L).1⟩)/\(∃j,j<=L.length/\I (ze step enc a [] L).1 j)/\(ze step enc a [] L).2.length<=45:=by
 have p:=wh (body:=pa (fa code lib) ka hx) (live:=[0,5,26,27,28]) (nb:=nb) (fun q:(α×ba)×Nat=>(⟨[(0,.Ma b),(5,.flat (.string (S q.1.2))),(26,.ha L.length (vf L)),(27,.flat (.int .i64 (L.length:Nat))),(28,.flat (.int .i64 (q.2:Nat)))],cl (oc q.1.1),[],BX q.1.1⟩:St)) (fun q=>(∃j,j<=q.2/\I q.1.1 j)/\q.1.2.length<=45/\q.2<=L.length) (fun q=>L.length - q.2)
  (fun q=>(.exit 2,⟨[(0,.Ma b),(5,.flat (.string (S (ze step enc q.1.1 q.1.2 (L.drop q.2)).2)))],cl (oc (ze step enc q.1.1 q.1.2 (L.drop q.2)).1),[],BX (ze step enc q.1.1 q.1.2 (L.drop q.2)).1⟩)) (fun⟨⟨a,c⟩,k⟩ h=>?_) (n:=ka) (a:=((a,[]),0)) ⟨⟨0,la _,h⟩,da,Za _⟩ aa
 ·refine⟨p,?_⟩
  have o:∀(l:List Nat)(a:α)(c:ba)(k:Nat),k+l.length=L.length->(∃j,j<=k/\I a j)->c.length<=45->(∃j,j<=L.length/\I (ze step enc a c l).1 j)/\(ze step enc a c l).2.length<=45:=by
   intro l
   induction l with
   |nil=>exact fun a c k C ⟨j,d,e⟩ t=>⟨⟨j,aa,e⟩,t⟩
   |cons r l v=>
    intro a c k C ⟨j,d,e⟩ t;have w:=Tj r;simp only[za]at C;simp only[ze];split
    ·exact v _ _ (k+1) aa ⟨j+1,aa,F a j _ e aa (Ob (Iu y aa) ga)⟩ aa
    ·exact v _ _ (k+1) aa ⟨j,aa,e⟩ ia
  simp_all
 ·dsimp only at h⊢
  obtain⟨⟨j,hjZ,h⟩,J,C⟩:=h;have d:=i a;by_cases ea:k<L.length
  ·right
   have hcZ:=qe ea;have H:=ld ea;have w:=V _ (Qm ea);obtain⟨r,hr⟩:∃r,L[k]=r:=⟨_,rfl⟩;rw[hr]at H w;have c1:(k:Int)<L.length:=aa
   have c2:(0:Int)<=(k:Nat):=aa
   have K:IntKind.i64.wrap ((k:Int)+1)=((k+1:Nat):Int):=wrap64 aa;have M:IntKind.i64.wrap (45 - (c.length:Int))=45 - (c.length:Int):=wrap64 aa;have v:(vf L).drop k=.flat (.int .i32 (r:Nat))::(vf L).drop (k+1):=by simp only[vf,<-Yi,H,kc]
   have t:1<=((vf L).drop (k+1)).length+1:=aa
   have G:=qC (lib:=lib) r w;have P:=Tj r;have U:(⟨#[61,63,85,84,70,45,56,63,66,63]⟩:ByteArray)=S Jd:=rfl;have A:(⟨#[63,61]⟩:ByteArray)=S [63,61]:=rfl;have B:(⟨#[]⟩:ByteArray)=S []:=rfl;by_cases hgZ:45<c.length+(ob r).length
   ·have o:45 - (c.length:Int)<((ob r).length:Int):=aa
    have Q:=Iu y (g:=c) aa;have D:=W a j (Pe enc c) h aa aa;have e:=i (step a (Pe enc c));have R:=xJ y c aa;have z:Jd++enc c++[63,61]=Pe enc c:=rfl;have T:=(y c aa).1;have E:Jd.length+(enc c).length<=Da:=by unfold Da;simp only[Jd,za,ya];omega
    have Y:(ob r).length<=Da:=Me
    have X:(Jd++enc c).length+2<=Da:=by unfold Da;simp only[Jd,Ja,za,ya];omega
    refine⟨⟨[(0,.Ma b),(5,.flat (.string (S (ob r)))),(26,.ha L.length (vf L)),(27,.flat (.int .i64 (L.length:Nat))),(28,.flat (.int .i64 ((k+1:Nat):Int)))],cl (oc (step a (Pe enc c))),[],BX (step a (Pe enc c))⟩,((step a (Pe enc c),ob r),k+1),?_,?_,⟨⟨j+1,aa,F a j _ h aa aa⟩,ia,ea⟩,aa,by grind [ze]⟩
    ·simp only[oG,go_sem,simprocAttr,xb,cb,wb,pb,Bb,dH,c1,c2,K,M,v,t,za,G,o,Na,Zi,U,A,B,R,z,E,X,Y,D,cc,d,e,ic,Gb]
    ·simp only[go_sem,simprocAttr,xb,cb,Mc e,e,db _ (u _)]
   ·have o:¬45 - (c.length:Int)<((ob r).length:Int):=aa
    have E:c.length+(ob r).length<=Da:=Me
    refine⟨⟨[(0,.Ma b),(5,.flat (.string (S (c++ob r)))),(26,.ha L.length (vf L)),(27,.flat (.int .i64 (L.length:Nat))),(28,.flat (.int .i64 ((k+1:Nat):Int)))],cl (oc a),[],BX a⟩,((a,c++ob r),k+1),?_,?_,⟨⟨j,aa,h⟩,ia,ea⟩,aa,by grind [ze]⟩
    ·simp only[oG,go_sem,simprocAttr,xb,cb,wb,pb,Bb,dH,c1,c2,K,M,v,t,za,G,o,E,Na,Zi,cc,d]
    ·simp only[go_sem,simprocAttr,xb,cb,Mc d,d,db _ (u _)]
  ·left
   obtain rfl:k=L.length:=aa
   have c1:¬(L.length:Int)<L.length:=aa
   refine⟨.exit 2,⟨[(0,.Ma b),(5,.flat (.string (S c)))],cl (oc a),[],BX a⟩,?_,da,by grind [ze]⟩;simp only[oG,go_sem,simprocAttr,xb,cb,wb,pb,Bb,c1,Mc d,d,ic]
theorem zep{enc}(w:ci lib enc)(N:Cf lib)(O:sd lib)(s:ba)(hs:s.length<=10000)(u:∀a,(BX a)[p]?=some (9,[.flat (.string (S s))]))(d:∀a,(BX a).length=nb)(e:∀a,∀q∈oc a,q.1<nb)
 (L:∀a k x,I a k->k<10002->x.length<=10000->I (step a x) (k+1))
 (H:∀a k x,I a k->k<10002->x.length<=10000->fa code lib hb [.Ma b,.flat (.string (S x))] (BX a) (cl (oc a))=some ([.flat (.bool true)],false,BX (step a x),cl (oc (step a x)))) (a) (M:I a 0):
 fa code lib 229 [.Ma b,.ptr p 0] (BX a) (cl (oc a))=some ([],false,BX ((Bg enc s).foldl step a),cl (oc ((Bg enc s).foldl step a))):=by
 refine ma YW (qa rfl) ?_;have n:(⟨#[]⟩:ByteArray)=S []:=rfl;have C:=u a;have t:=d a;by_cases A:s=[]
 ·have h:=eq_true A
  simp only[go_sem,simprocAttr,xb,cb,wb,pb,Bb,C,n,xo,h,Bg,List.foldl_nil,Mc t,t,db _ (e a)]
 have h:=eq_false A;have i:=A9 (lib:=lib) O s aa;cases v:Un s with
 |true=>
  rw[v]at i;have hcut:=VM N s 32 aa;have E:=Vr 32 s;have hr:=zen (lib:=lib) BX oc step I b nb d e 10002 L H (gb 32 s) aa aa (fun x G=>by have:=Ju 32 s x G;omega) a M (by grind [ka]);have z:=d ((gb 32 s).foldl step a);have c:((32:UInt8).toNat:Int)=32:=rfl;rw[c]at hcut;simp only[go_sem,simprocAttr,xb,cb,wb,pb,Bb,C,n,xo,h,i,v,hcut,hr,Bg,Od,Mc t,t,Mc z,z,db _ (e _)]
 |false=>
  rw[v]at i;have F:=S_ (lib:=lib) s aa;have U:=lG s;obtain⟨hr,⟨j,Y,r⟩,l⟩:=zeo (lib:=lib) BX oc step I b nb w d e 10002 L H (Ng s) aa aa (fun x G=>by have:=r7 s x G;omega) a M (by grind [ka]);have o:=uy step enc (Ng s) a [];obtain⟨⟨y,c⟩,T⟩:∃q,ze step enc a [] (Ng s)=q:=⟨_,rfl⟩;rw[T]at hr o r l;dsimp only at hr o r l;have R:(⟨#[61,63,85,84,70,45,56,63,66,63]⟩:ByteArray)=S Jd:=rfl;have D:(⟨#[63,61]⟩:ByteArray)=S [63,61]:=rfl;have E:=Iu w (g:=c) aa;have J:=H y j (Pe enc c) r aa aa;have z:=d y;have K:=d (step y (Pe enc c));have P:=xJ w c aa;have B:Jd++enc c++[63,61]=Pe enc c:=rfl;have Q:=(w c aa).1;have W:Jd.length+(enc c).length<=Da:=by unfold Da;simp only[Jd,za,ya];omega
  have X:(Jd++enc c).length+2<=Da:=by unfold Da;simp only[Jd,Ja,za,ya];omega
  have V:(Bg enc s).foldl step a=step y (Pe enc c):=by simp only[Bg,A,v,Fa,if_false];exact o
  rw[V];simp only[go_sem,simprocAttr,xb,cb,wb,pb,Bb,C,n,xo,h,i,v,F,hr,gS,R,D,Zi,Na,P,B,W,X,J,za,Mc t,t,z,Mc K,K,ic,db _ (e _)]
end
variable {lib:Callee}
def oU(s)(bx)(oc)(h:∀q∈oc,q.1<bx.length):fa code lib 163 [.flat (.string (S s))] bx (cl oc)=some ([.fb 229 [.ptr bx.length 0]],false,bx++[(9,[.flat (.string (S s))])],cl oc):=by
 refine ma XW (qa rfl) ?_;have a:¬(bx.length+1=bx.length):=aa
 have b:Nb (bx.length+1) (cl oc)=cl oc:=db _ fun q c=>by grind
 exact Rc @Ja.{0} @Nat.lt_irrefl
def yj(q:ba×Nat)(x:ba):ba×Nat:=(xl q.1 x q.2,wl x q.2)
def Kf(enc:ba->ba)(f v:ba):ba:=((Bg enc v).foldl yj (f++[58],f.length+1)).1++[13,10]
def ux(v:ba)(q:ba×Nat):Ha:=[(236,bld true 0 q.1 [.flat (.int .i64 (q.2:Nat))]),(9,[.flat (.string (S v))]),(0,[.lp 98 0 .ready [6] [.ptr 0 0]])]
def Bq(q:ba×Nat)(k:Nat):Prop:=q.1.length<=11000+k* 10010/\q.2<=10010
theorem FH(q)(k)(x)(h:Bq q k)(a:k<10002)(b:x.length<=10000):Bq (yj q x) (k+1):=by
 grind [Bq,yj,xl,wl,jl]
theorem my:∀(L:List ba)(k)(q),Bq q k->(k+L.length<=10002/\∀x∈L,x.length<=10000)->(L.foldl yj q).1.length<=200000000
 |[],k,q,h,a=>by obtain⟨b,c⟩:=h;grind
 |x::L,k,q,h,a=>by
  rw[Jm];have b:=a.1;simp only[za]at b;exact my L (k+1) _ (FH q k x h aa (a.2 x Mt)) ⟨aa,fun y c=>a.2 y (po _ c)⟩
theorem vD{enc}(c:ci lib enc):∀(l)(a),a.length<=45->∀x∈Xk enc a l,x.length<=200
 |[],a,h,x,b=>by grind [Xk,Iu]
 |r::l,a,h,x,b=>by
  have d:=Tj r;simp only[Xk]at b;split at b
  ·rcases Wb.1 b with rfl|b
   ·grind [Iu]
   ·exact vD c l _ aa x b
  ·exact vD c l _ ia x b
def qI{enc}(b:ci lib enc)(v)(c:v.length<=10000):0+(Bg enc v).length<=10002/\∀x∈Bg enc v,x.length<=10000:=by
 unfold Bg;split
 ·simp
 ·split
  ·have:=Vr 32 v
   exact⟨aa,fun x a=>by have:=Ju 32 v x a;omega⟩
  ·have:=uD enc (Ng v) []
   have:=lG v;exact⟨aa,fun x a=>by have:=vD b _ [] da x a;omega⟩
def zev(c:pe lib)(v)(q)(k)(x)(h:Bq q k)(j:k<10002)(n:x.length<=10000):fa code lib hb [.Ma 2,.flat (.string (S x))] (ux v q) [.cell 0 1]=some ([.flat (.bool true)],false,ux v (yj q x),[.cell 0 1]):=by
 refine fs Rr yM rfl rfl rfl ?_;obtain⟨g,i⟩:=h;have a:=O9 (lib:=lib) c (bx:=[(236,bld true 0 q.1 [.flat (.int .i64 (q.2:Nat))]),(9,[.flat (.string (S v))]),(0,[.lp 98 0 .busy [6] [.ptr 0 0]])]) (r:=[]) (b:=0) (e:=236) (u:=true) (l:=q.1) (w:=x) (long:=q.2) rfl MF aa aa da da da;have d:(Loc.cell 0 1::cl [])=[.cell 0 1]:=rfl;simp only[d,List.set_cons_zero]at a;simp only[xO,mO,ux,yj,go_sem,simprocAttr,a]
theorem zeu{enc}(D:ci lib enc)(F:Cf lib)(G:sd lib)(g:pe lib)(f v:ba)(E:v.length<=10000)(P:f.length<=10000):fa code lib 98 [.flat (.string (S f)),.flat (.string (S v))] [] []=
 some ([.flat (.string (S (if kf f then Kf enc f v else[]))),.flat (.int .i64 (if kf f then 0 else 1))],false,[],[]):=by
 refine ma yM (qa rfl) ?_;have z:=EQ (lib:=lib) f aa;have p:(⟨#[]⟩:ByteArray)=S []:=rfl;have t:(⟨#[58]⟩:ByteArray)=S [58]:=rfl;have w:(⟨#[13,10]⟩:ByteArray)=S [13,10]:=rfl;cases e:kf f with
 |false=>
  rw[e]at z;exact ta
 |true=>
  rw[e]at z;have O:IntKind.i64.wrap ((f.length:Int)+1)=((f.length+1:Nat):Int):=wrap64 aa;have B:=Hl (lib:=lib) (bx:=[(236,bld false 0 [] [.flat (.int .i64 ((f.length+1:Nat):Int))])]) (r:=[]) (m:=f++[58]) (b:=0) (u:=false) (l:=[]) g rfl MF (by simp only[Ja,za,ya];unfold Da;omega) da da;have L:(Loc.cell 0 1::cl [])=[.cell 0 1]:=rfl;have d:=zep (lib:=lib) (ux v) (fun _=>[(0,1)]) yj Bq 2 1 3 D F G v E (fun _=>rfl) (fun _=>rfl) (fun a q A=>by grind) (fun a k x h i j=>FH a k x h i j) (fun a k x h i j=>zev g v a k x h i j) (f++[58],f.length+1) ⟨ia,aa⟩;obtain⟨⟨l,long⟩,A⟩:∃q,(Bg enc v).foldl yj (f++[58],f.length+1)=q:=⟨_,rfl⟩;have c:=my (Bg enc v) 0 (f++[58],f.length+1) ⟨ia,aa⟩ (qI D v E);rw[A]at d c;have M:l.length<=200000000:=c;have N:f.length+1<=Da:=Me
  have H:fa code lib 45 [.ptr 0 0,.flat (.string (S (f++[58])))] [(236,[.flat (.pointer none),.ha 0 [],.flat (.int .i64 ((f.length+1:Nat):Int))])] [.cell 0 1]=some ([.flat (.int .i64 ((f++[58]).length:Nat)),.flat .nilIface],false,[(236,[.ptr 0 0,.ha (f++[58]).length (Yc (f++[58])),.flat (.int .i64 ((f.length+1:Nat):Int))])],[.cell 0 1]):=B;have e1:=oU (lib:=lib) v [(236,[.ptr 0 0,.ha (f++[58]).length (Yc (f++[58])),.flat (.int .i64 ((f.length+1:Nat):Int))])] [(0,1)] da;have e2:=oU (lib:=lib) v [] [] da;have n:cl [(0,1)]=[.cell 0 1]:=rfl;have o:cl []=[]:=rfl;simp only[n,o,go_sem,simprocAttr]at e1 e2;have I:fa code lib 229 [.Ma 2,.ptr 1 0] [(236,[.ptr 0 0,.ha (f++[58]).length (Yc (f++[58])),.flat (.int .i64 ((f.length+1:Nat):Int))]),(9,[.flat (.string (S v))]),(0,[.lp 98 0 .ready [6] [.ptr 0 0]])] [.cell 0 1]=some ([],false,[(236,[.ptr 0 0,.ha l.length (Yc l),.flat (.int .i64 (long:Nat))]),(9,[.flat (.string (S v))]),(0,[.lp 98 0 .ready [6] [.ptr 0 0]])],[.cell 0 1]):=d;have C:=Hl (lib:=lib) (bx:=[(236,bld true 0 l [.flat (.int .i64 (long:Nat))]),(9,[.flat (.string (S v))])]) (r:=[]) (m:=[13,10]) (b:=0) (u:=true) (l:=l) g rfl MF (by simp only[za,ya];unfold Da;omega) da da;have J:fa code lib 45 [.ptr 0 0,.flat (.string (S [13,10]))] [(236,[.ptr 0 0,.ha l.length (Yc l),.flat (.int .i64 (long:Nat))]),(9,[.flat (.string (S v))])] [.cell 0 1]=some ([.flat (.int .i64 (([13,10]:ba).length:Nat)),.flat .nilIface],false,[(236,[.ptr 0 0,.ha (l++[13,10]).length (Yc (l++[13,10])),.flat (.int .i64 (long:Nat))]),(9,[.flat (.string (S v))])],[.cell 0 1]):=C;have K:fa code lib 46 [.ptr 0 0] [(236,[.ptr 0 0,.ha (l++[13,10]).length (Yc (l++[13,10])),.flat (.int .i64 (long:Nat))]),(9,[.flat (.string (S v))])] [.cell 0 1]=some ([.flat (.string (S (l++[13,10])))],false,[(236,[.ptr 0 0,.ha (l++[13,10]).length (Yc (l++[13,10])),.flat (.int .i64 (long:Nat))]),(9,[.flat (.string (S v))])],ad (.cell 0 1) [.cell 0 1]):=xt (u:=true) (rest:=[.flat (.int .i64 (long:Nat))]) g rfl da;have y:Kf enc f v=l++[13,10]:=by simp only[Kf,A]
  simp only[go_sem,simprocAttr,z,p,t,w,e,O,N,Na,Zi,H,e1,e2,I,J,K,XB,y]
def wd(n:Nat):Nat:=if 48<=n/\n<=57 then n - 48 else if 65<=n/\n<=70 then n - 55 else if 97<=n/\n<=102 then n - 87 else 99
def Cd(base:Nat):Nat->Nat->ba->Nat×Nat
 |0,n,_=>(n,0)
 |_+1,n,[]=>(n,0)
 |m+1,n,c::t=>if wd c.toNat<base then((Cd base m (n* base+wd c.toNat) t).1,(Cd base m (n* base+wd c.toNat) t).2+1)else(n,0)
def ql(base most:Nat)(s:ba):Option (ba×Nat):=
 if(Cd base most 0 s).1≠0/\ee (Cd base most 0 s).1=true/\s[(Cd base most 0 s).2]?=some 59 then some (ob (Cd base most 0 s).1,(Cd base most 0 s).2+1)else none
def On(s:ba):Option (ba×Nat):=
 if([38,97,109,112,59]:ba).isPrefixOf s then some ([38],5)
 else if([38,108,116,59]:ba).isPrefixOf s then some ([60],4)
 else if([38,103,116,59]:ba).isPrefixOf s then some ([62],4)
 else if([38,113,117,111,116,59]:ba).isPrefixOf s then some ([34],6)
 else if([38,35,120]:ba).isPrefixOf s then(ql 16 6 (s.drop 3)).map fun q=>(q.1,3+q.2)
 else if([38,35]:ba).isPrefixOf s then(ql 10 7 (s.drop 2)).map fun q=>(q.1,2+q.2)
 else none
theorem jG(base):∀(m n)(s),(Cd base m n s).2<=m/\(Cd base m n s).2<=s.length
 |0,n,s=>by simp[Cd]
 |m+1,n,[]=>by simp[Cd]
 |m+1,n,c::t=>by
  have:=jG base m (n* base+wd c.toNat) t
  grind [Cd]
def cR{base most}{s}{q}(h:ql base most s=some q):1<=q.2/\q.2<=s.length/\q.1.length<=4:=by
 grind [ql,Tj]
def JG{s}{q}(h:On s=some q):1<=q.2/\q.2<=s.length/\q.1.length<=4:=by
 unfold On at h;split at h
 ·grind
 split at h
 ·grind
 split at h
 ·grind
 split at h
 ·grind
 split at h
 ·rename_i b;have c:=xk b
  obtain⟨d,a,rfl⟩:=qm h;have:=cR a
  grind
 split at h
 ·rename_i b;have c:=xk b
  obtain⟨d,a,rfl⟩:=qm h;have:=cR a
  grind
 grind
def Ti(s:ba)(e a:UInt8)(q:ba×Nat):(ba×Nat) ⊕ Option (ba×Nat):=match s[q.2]? with
 |none=>.inr (some q)
 |some c=>if c=e then .inr (some q)else if c=a then .inr none else if c=38 then(match On (s.drop q.2)with
  |none=>.inr none
  |some (b,k)=>.inl (q.1++b,q.2+k))else .inl (q.1++[c],q.2+1)
def ti(s:ba)(e a:UInt8)(at_:Nat):Option (ba×Nat):=hc (Ti s e a) none (s.length+1) ([],at_)
theorem tH{s}{e g}(d):∀a b,(a.2<=s.length/\d<=a.2/\a.1.length<=4* (a.2 - d))->Ti s e g a=.inl b->(b.2<=s.length/\d<=b.2/\b.1.length<=4* (b.2 - d))/\s.length - b.2<s.length - a.2
 |(out,k),b,⟨i,j,l⟩,h=>by
  unfold Ti at h;dsimp only at h i j l;split at h
  ·cases h
  ·rename_i c o
   have ea:=(qg o).1;split at h
   ·cases h
   split at h
   ·cases h
   split at h
   ·split at h
    ·cases h
    ·rename_i x n p
     have:=JG p
     grind
   grind
def ut{s}{e c}{at_}(h:at_<=s.length){q}(i:ti s e c at_=some q):at_<=q.2/\q.2<=s.length/\q.1.length<=4* s.length/\(s[q.2]?=none\/s[q.2]?=some e):=by
 have:=up (step:=Ti s e c) (d:=none) (I:=fun a=>a.2<=s.length/\at_<=a.2/\a.1.length<=4* (a.2 - at_)) (μ:=fun a=>s.length - a.2) (Q:=fun r=>∀q,r=some q->at_<=q.2/\q.2<=s.length/\q.1.length<=4* s.length/\(s[q.2]?=none\/s[q.2]?=some e)) (fun a g=>by
  cases hs:Ti s e c a with
  |inl b=>exact tH at_ a b g hs
  |inr r=>
   grind [Ti]) (s.length+1) ([],at_) ⟨h,la _,da⟩ aa
 exact this q i
def rm(c:UInt8):Bool:=(decide (97<=c.toNat)&&decide (c.toNat<=122))||(decide (48<=c.toNat)&&decide (c.toNat<=57))
def Ko(c:UInt8):Bool:=decide (c.toNat=32)||(decide (c.toNat=9)||decide (c.toNat=10))
def Ib(s:ba)(at_:Nat):ba:=(s.drop at_).takeWhile rm
def ch(s:ba)(at_:Nat):ba:=(s.drop at_).takeWhile Ko
structure Nj where
 name:ba
 val:ba
 fr:Nat
 to:Nat
structure Tok where
 kind:UInt8
 name:ba
 text:ba
 Er:List Nj
 fr:Nat
 to:Nat
def Vf:List ba:=[[97],[98],[98,114],[99,111,100,101],[100,105,118],[101,109],[104,49],[104,50],[104,51],[104,114],[105],[105,109,103],[108,105],[111,108],[112],[112,114,101],[115,112,97,110],[115,116,114,111,110,103],[116,97,98,108,101],[116,98,111,100,121],[116,100],[116,104],[116,104,101,97,100],[116,114],[117],[117,108]]
def Ok:List ba:=[[97,108,116],[99,108,97,115,115],[99,111,108,115,112,97,110],[104,114,101,102],[105,100],[114,111,119,115,112,97,110],[115,114,99],[116,105,116,108,101],[119,105,100,116,104]]
def xi(s:ba):Bool:=decide (s=[98,114])||(decide (s=[104,114])||decide (s=[105,109,103]))
def Co(s:ba)(at_:Nat):Option (Nj×Nat):=
 if Ok.contains (Ib s at_)&&Wa s [61,34] (at_+(Ib s at_).length)then(match ti s 34 60 (at_+(Ib s at_).length+2)with
  |none=>none
  |some (v,e)=>if e<s.length then some (⟨Ib s at_,v,at_+(Ib s at_).length+2,e⟩,e+1)else none)
 else none
def Of(s:ba)(q:List Nj×Nat):(List Nj×Nat) ⊕ Option (List Nj×Nat):=
 if Wa s [62] (q.2+(ch s q.2).length)then .inr (some (q.1,q.2+(ch s q.2).length+1))
 else match Co s (q.2+(ch s q.2).length)with
  |none=>.inr none
  |some (a,e)=>if(ch s q.2).length=0\/(q.1.any fun b=>decide (b.name=a.name))=true then .inr none else .inl (q.1++[a],e)
def tk(s:ba)(at_:Nat):Option (List Nj×Nat):=hc (Of s) none (s.length+1) ([],at_)
def pk(s:ba)(at_:Nat):Option Tok:=
 if Wa s [60,47] at_ then
  (if Vf.contains (Ib s (at_+2))&&(!xi (Ib s (at_+2))&&Wa s [62] (at_+2+(Ib s (at_+2)).length))then some ⟨99,Ib s (at_+2),[],[],at_,at_+2+(Ib s (at_+2)).length+1⟩else none)
 else if Wa s [60] at_ then
  (if Vf.contains (Ib s (at_+1))then(tk s (at_+1+(Ib s (at_+1)).length)).map fun q=>⟨111,Ib s (at_+1),[],q.1,at_,q.2⟩else none)
 else(ti s 60 62 at_).map fun q=>⟨116,[],q.1,[],at_,q.2⟩
def Dk(s:ba)(q:List Tok×Nat):(List Tok×Nat) ⊕ Option (List Tok):=
 if s.length<=q.2 then .inr (some q.1)else match pk s q.2 with
  |none=>.inr none
  |some t=>.inl (q.1++[t],t.to)
def eo(s:ba):Option (List Tok):=if ni s then hc (Dk s) none (s.length+1) ([],0)else none
variable {lib:Callee}
def rd(s:ba)(k:Nat):List PV:=[.flat (.string (S s)),.flat (.int .i64 (k:Nat))]
def Xx{bx}{r}{b e}{s}{k}(a:bx[b]?=some (e,rd s k))(ea:∀q∈r,q.1<bx.length):
 fa code lib 111 [.ptr b 0] bx (cl r)=some ([.flat (.bool (decide (s.length<=k)))],false,bx,cl r):=by
 refine ma YX (qa rfl) ?_;unfold rd at a;exact Rc @Kk (db r ea)
theorem OH(i:sd lib){bx}{r}{b e}{s w}{k}(d:bx[b]?=some (e,rd s k))(hs:s.length<=1000000000)(j:w.length<=1000000000)(n:k<=s.length)(hr:∀q∈r,q≠(b,1))(ea:∀q∈r,q.1<bx.length):
 fa code lib 178 [.ptr b 0,.flat (.string (S w))] bx (cl r)=some ([.flat (.bool (w.isPrefixOf (s.drop k)))],false,bx.set b (e,rd s (if w.isPrefixOf (s.drop k)then k+w.length else k)),cl r):=by
 refine ma ZX (qa rfl) ?_;have a:=xp d;unfold rd at d;have g:=(qg d).1;have l:(0:Int)<=(k:Nat):=aa
 have c1:(k:Int)<=s.length:=aa
 have o:(s.take s.length).drop k=s.drop k:=by rw[Eh]
 have h:=SR i (s.drop k) w ia j;have p:=Kw (k:=k) (m:=w.length) aa;cases c:w.isPrefixOf (s.drop k)with
 |false=>
  rw[c]at h;simp only[a,Fa,if_false];exact va (db r ea)
 |true=>
  rw[c]at h;simp only[if_true];exact Zf (Hf r hr) @rd.eq_1 (db r ea)
def f6(c):fa code lib 180 [.flat (.int .u8 c.toNat)] [] []=some ([.flat (.bool (rm c))],false,[],[]):=by
 refine ma bY (qa rfl) ?_;unfold rm;obtain⟨n,b⟩:∃n,c.toNat=n:=⟨_,rfl⟩;rw[b];have d:((97:Int)<=((n:Nat):Int))=(97<=n):=by apply propext;omega
 have e:(((n:Nat):Int)<=(122:Int))=(n<=122):=by apply propext;omega
 have g:((48:Int)<=((n:Nat):Int))=(48<=n):=by apply propext;omega
 have h:(((n:Nat):Int)<=(57:Int))=(n<=57):=by apply propext;omega
 rcases Ka (97<=n)with a|a
 all_goals first|(exfalso;omega)|skip
 all_goals rcases Ka (n<=122)with a2|a2
 all_goals first|(exfalso;omega)|skip
 all_goals rcases Ka (48<=n)with a3|a3
 all_goals first|(exfalso;omega)|skip
 all_goals rcases Ka (n<=57)with a4|a4
 all_goals first|(exfalso;omega)|skip
 all_goals
  first|have e1:=eq_false a|have e1:=eq_true a
  first|have e2:=eq_false a2|have e2:=eq_true a2
  first|have e3:=eq_false a3|have e3:=eq_true a3
  first|have e4:=eq_false a4|have e4:=eq_true a4
  clear a a2 a3 a4
 all_goals exact ta
def tV(c):fa code lib 242 [.flat (.int .u8 c.toNat)] [] []=some ([.flat (.bool (Ko c))],false,[],[]):=by
 refine ma WX (qa rfl) ?_;unfold Ko;obtain⟨n,b⟩:∃n,c.toNat=n:=⟨_,rfl⟩;rw[b];have d:(((n:Nat):Int)=(32:Int))=(n=32):=by apply propext;omega
 have e:(((n:Nat):Int)=(9:Int))=(n=9):=by apply propext;omega
 have g:(((n:Nat):Int)=(10:Int))=(n=10):=by apply propext;omega
 rcases Ka (n=32)with a|a
 all_goals first|(exfalso;omega)|skip
 all_goals rcases Ka (n=9)with a2|a2
 all_goals first|(exfalso;omega)|skip
 all_goals rcases Ka (n=10)with a3|a3
 all_goals first|(exfalso;omega)|skip
 all_goals
  first|have e1:=eq_false a|have e1:=eq_true a
  first|have e2:=eq_false a2|have e2:=eq_true a2
  first|have e3:=eq_false a3|have e3:=eq_true a3
  clear a a2 a3
 all_goals exact ta
def Ag(s:ba)(p:UInt8->Bool)(k:Nat):Nat ⊕ Nat:=match s[k]? with
 |some c=>if p c then .inl (k+1)else .inr k
 |none=>.inr k
theorem tA(s)(p):∀(n k),s.length - k<n->k<=s.length->hc (Ag s p) 0 n k=k+((s.drop k).takeWhile p).length
 |0,k,h,_=>by omega
 |n+1,k,h,c=>by
  by_cases ea:k<s.length
  ·have a:=ld ea
   have b:=qe ea;rw[a,NA];cases d:p s[k]with
   |true=>
    rw[xf (show Ag s p k=.inl (k+1) by grind [Ag]),tA s p n (k+1) aa ea]
    grind
   |false=>
    rw[Dd (show Ag s p k=.inr k by grind [Ag])];simp
  ·have b:s[k]?=none:=Ie aa
   rw[Dd (show Ag s p k=.inr k by grind [Ag]),Ai aa];simp
theorem nU{bx}{r}{b e f:Nat}{s}{k}{p}(x:bx[b]?=some (e,rd s k))(hs:s.length<=1000000000)(y:k<=s.length)(hr:∀q∈r,q≠(b,1))(ea:∀q∈r,q.1<bx.length)
 (C:(f=4611686018427387904)=False) (B:∀c,fa code lib f [.flat (.int .u8 c.toNat)] [] []=some ([.flat (.bool (p c))],false,[],[])):
 fa code lib 179 [.ptr b 0,.fb f []] bx (cl r)=some ([.flat (.string (S ((s.drop k).takeWhile p)))],false,bx.set b (e,rd s (k+((s.drop k).takeWhile p).length)),cl r):=by
 refine ma aY (qa rfl) ?_;have g:=(qg x).1
 have a:=Jn (body:=pa (fa code lib) ka TB) (live:=[0,1,5]) (nb:=bx.length) (fun j:Nat=>(⟨[(0,.ptr b 0),(1,.fb f []),(5,.flat (.int .i64 (k:Nat)))],cl r,[],bx.set b (e,rd s j)⟩:St))
  (Ag s p) 0 (fun j=>(.exit 0,⟨[(0,.ptr b 0),(5,.flat (.int .i64 (k:Nat)))],cl r,[],bx.set b (e,rd s j)⟩)) (fun j=>j<=s.length) (fun j=>s.length - j) (fun j o=>?_) (fun j o=>?_) (fun j i o h=>?_) (fun j=>by simp) (n:=s.length+1) k y aa (by grind [ka])
 ·rw[tA s p _ k aa y,xp x]at a
  have t:k+((s.drop k).takeWhile p).length<=s.length:=by
   have:=(kI p (l:=s.drop k)).length_le;rw[Ya]at this;omega
  obtain⟨n,o⟩:∃n,k+((s.drop k).takeWhile p).length=n:=⟨_,rfl⟩;have u:(s.take n).drop k=(s.drop k).takeWhile p:=by
   rw[<-o,Lp,oh];exact(KA.1 (kI p)).symm
  rw[o]at a t⊢;have d:(bx.set b (e,rd s n))[b]?=some (e,rd s n):=yg g;unfold rd at x d;have v:(0:Int)<=(k:Nat):=aa
  have c1:(k:Int)<=(n:Nat):=aa
  have c2:(n:Int)<=s.length:=aa
  have c3:(0:Int)<=(n:Nat):=aa
  simp only[rd]at a⊢;exact va (db r ea)
 ·have d:(bx.set b (e,rd s j))[b]?=some (e,rd s j):=yg g
  have A:=Xx (lib:=lib) (r:=r) d ia;have v:∀q,(bx.set b (e,rd s j)).set b q=bx.set b q:=fun q=>jo ..
  unfold rd at d A v⊢;by_cases u:j<s.length
  ·have t:=qe u
   obtain⟨c,z⟩:∃c,s[j]=c:=⟨_,rfl⟩;rw[z]at t;have o:=B c;have c1:¬s.length<=j:=aa
   have c2:(0:Int)<=(j:Nat):=aa
   have D:=jg (k:=j) aa;cases w:p c with
   |true=>
    rw[w]at o;simp only[Ag,t,w,if_true,Vb];exact Zf HG (Hf r hr) (db r ea)
   |false=>
    rw[w]at o;simp only[Ag,t,w,Fa,if_false,Vb];exact Zf HG (Hf r hr) (db r ea)
  ·have t:s[j]?=none:=Ie aa
   have c1:s.length<=j:=aa
   simp only[Ag,t,Vb];exact Rc HG (db r ea)
 ·exact va (db r ea)
 grind [Ag]
def IT(a:sd lib){bx}{r}{b e}{s}{k}(w)(c:bx[b]?=some (e,rd s k))(hs:s.length<=1000000000)(g:w.length<=1000000000)(d:k<=s.length)(hr:∀q∈r,q≠(b,1))(ea:∀q∈r,q.1<bx.length)(h:w.isPrefixOf (s.drop k)=false):
 fa code lib 178 [.ptr b 0,.flat (.string (S w))] bx (cl r)=some ([.flat (.bool false)],false,bx,cl r):=by
 have:=OH a (w:=w) c hs g d hr ea
 grind [xp]
def JT(a:sd lib){bx}{r}{b e}{s}{k}(w)(c:bx[b]?=some (e,rd s k))(hs:s.length<=1000000000)(g:w.length<=1000000000)(d:k<=s.length)(hr:∀q∈r,q≠(b,1))(ea:∀q∈r,q.1<bx.length)(h:w.isPrefixOf (s.drop k)=true):
 fa code lib 178 [.ptr b 0,.flat (.string (S w))] bx (cl r)=some ([.flat (.bool true)],false,bx.set b (e,rd s (k+w.length)),cl r):=by
 grind [OH]
def OY(c:UInt8):if 48<=c.toNat/\c.toNat<=57 then wd c.toNat=c.toNat - 48 else if 97<=(c.toNat|||32)/\(c.toNat|||32)<=102 then wd c.toNat=(c.toNat|||32) - 87 else wd c.toNat=99:=by
 have:=Rk (p:=fun n=>decide (if 48<=n/\n<=57 then wd n=n - 48 else if 97<=(n|||32)/\(n|||32)<=102 then wd n=(n|||32) - 87 else wd n=99)) lc c
 grind
def Ji(s:ba)(base most:Nat)(q:Nat×Nat×Nat):(Nat×Nat×Nat) ⊕ (Nat×Nat):=if q.2.1<most then(match s[q.2.2]? with
 |some c=>if wd c.toNat<base then .inl (q.1* base+wd c.toNat,q.2.1+1,q.2.2+1)else .inr (q.1,q.2.2)
 |none=>.inr (q.1,q.2.2))else .inr (q.1,q.2.2)
theorem kG(s)(base most):∀(f n a k),most - a<f->hc (Ji s base most) (0,0) f (n,a,k)=((Cd base (most - a) n (s.drop k)).1,k+(Cd base (most - a) n (s.drop k)).2)
 |0,n,a,k,h=>by omega
 |f+1,n,a,k,h=>by
  by_cases l:a<most
  ·obtain⟨j,g⟩:∃j,most - a=j+1:=⟨most - a - 1,aa⟩
   have b:most - (a+1)=j:=aa
   rw[g];by_cases c:k<s.length
   ·have d:=ld c
    have e:=qe c;rw[d];by_cases i:wd s[k].toNat<base
    ·rw[xf (show Ji s base most (n,a,k)=.inl (n* base+wd s[k].toNat,a+1,k+1) by grind [Ji]),kG s base most f _ _ _ aa,b]
     grind [Cd]
    ·rw[Dd (show Ji s base most (n,a,k)=.inr (n,k) by grind [Ji])]
     grind [Cd]
   ·have e:s[k]?=none:=Ie aa
    rw[Dd (show Ji s base most (n,a,k)=.inr (n,k) by grind [Ji]),Ai aa];rfl
  ·have:most - a=0:=aa
   rw[this,Dd (show Ji s base most (n,a,k)=.inr (n,k) by grind [Ji])];rfl
def FY(n):(Cb (ob n)).1=if ee n then n else 65533:=by
 unfold ob;have h:ee (if ee n then n else 65533)=true:=by
  cases a:ee n with
  |true=>grind
  |false=>rfl
 have:=Rx _ h []
 grind
theorem PR(m)(h:m<=7):16^m<=268435456:=Ob (Jp aa h) ga
theorem p7(HPZ:sd lib){bx}{r}{b e}{s}{k base most}(hbZ:bx[b]?=some (e,rd s k))(hs:s.length<=1000000000)(hkZ:k<=s.length)(hr:∀q∈r,q≠(b,1))(ea:∀q∈r,q.1<bx.length)(V:base=16\/base=10)(hmost:most<=7):
 match ql base most (s.drop k)with
 |some (x,c)=>fa code lib 281 [.ptr b 0,.flat (.int .i64 (base:Nat)),.flat (.int .i64 (most:Nat))] bx (cl r)=some ([.flat (.string (S x)),.flat (.bool true)],false,bx.set b (e,rd s (k+c)),cl r)
 |none=>∃k',k'<=s.length/\fa code lib 281 [.ptr b 0,.flat (.int .i64 (base:Nat)),.flat (.int .i64 (most:Nat))] bx (cl r)=some ([.flat (.string (S [])),.flat (.bool false)],false,bx.set b (e,rd s k'),cl r):=by
 have T:=(qg hbZ).1
 have g:=Jn (body:=pa (fa code lib) ka UB) (live:=[0,1,2,8,9]) (nb:=bx.length) (fun q:Nat×Nat×Nat=>(⟨[(0,.ptr b 0),(1,.flat (.int .i64 (base:Nat))),(2,.flat (.int .i64 (most:Nat))),(8,.flat (.int .i64 (q.1:Nat))),(9,.flat (.int .i64 (q.2.1:Nat)))],cl r,[],bx.set b (e,rd s q.2.2)⟩:St))
  (Ji s base most) (0,0) (fun q=>(.exit 0,⟨[(0,.ptr b 0),(8,.flat (.int .i64 (q.1:Nat)))],cl r,[],bx.set b (e,rd s q.2)⟩)) (fun q=>q.2.2<=s.length/\q.2.1<=most/\q.1+1<=16^q.2.1) (fun q=>most - q.2.1) (fun⟨n,u,j⟩ hjZ=>?_) (fun q hjZ=>?_) (fun⟨n,u,j⟩ i hjZ h=>?_) (fun j=>by simp) (n:=most+1) (0,0,k) ⟨hkZ,da,da⟩ aa (by grind [ka])
 ·rw[kG s base most _ _ _ _ aa]at g
  have B:=jG base most 0 (s.drop k);have w:=up (step:=Ji s base most) (d:=(0,0)) (I:=fun q=>q.2.2<=s.length/\q.2.1<=most/\q.1+1<=16^q.2.1) (μ:=fun q=>most - q.2.1) (Q:=fun r=>r.1<268435456) (fun⟨n,u,j⟩ U=>by
   grind [Ji,PR]) (most+1) (0,0,k) ⟨hkZ,da,da⟩ aa
  rw[kG s base most _ _ _ _ aa]at w;simp only[qo]at g w;rw[Ya]at B;unfold ql;obtain⟨⟨n,p⟩,R⟩:∃q,Cd base most 0 (s.drop k)=q:=⟨_,rfl⟩;rw[R]at g B w⊢;dsimp only at g B w⊢;have o:(bx.set b (e,rd s (k+p)))[b]?=some (e,rd s (k+p)):=yg T;have G:∀q∈r,q.1<(bx.set b (e,rd s (k+p))).length:=by rw[Bc];exact ea
  have l:∀q,(bx.set b (e,rd s (k+p))).set b q=bx.set b q:=fun q=>jo ..
  have J:IntKind.i32.wrap (n:Int)=(n:Int):=wrap32 aa;have y:=qC (lib:=lib) n aa;have O:=Tj n;have v:=QQ (lib:=lib) (ob n) (by grind [Sm]) 0 (Za _);have K:IntKind.i64.wrap (((Cb (ob n)).1:Nat):Int)=(((Cb (ob n)).1:Nat):Int):=wrap64 (by grind [Qx]);have A:=FY n;have H:((n:Int)=0)=(n=0):=by rw[<-Int.ofNat_zero,Kt]
  have E:(s.drop k)[p]?=(s.drop (k+p))[0]?:=by rw[Fj,Fj,Cj]
  rw[xp hbZ]at g;simp only[n0]at g;by_cases M:n=0
  ·subst M
   rw[if_neg (fun h=>h.1 rfl)];refine⟨k+p,aa,?_⟩;refine ma Jx (qa rfl) ?_;simp only[n0]at g J y;simp only[Af,n0]at v;simp only[go_sem,simprocAttr,Ge,g,J,y,v,cb,wb,pb,Bb,db r ea,Bc]
  ·have F:=eq_false M
   simp only[Af,n0]at v;cases L:ee n with
   |false=>
    rw[L]at A;simp only[Fa,if_false]at A;have ra:¬(65533:Int)=(n:Int):=fun h=>by
     have:n=65533:=aa
     rw[this]at L;exact absurd L ga
    rw[if_neg (fun h=>by grind)];refine⟨k+p,aa,?_⟩;refine ma Jx (qa rfl) ?_;rw[A]at v K;have P:IntKind.i64.wrap 65533=65533:=ga
    simp only[go_sem,simprocAttr,Ge,g,J,y,v,P,H,F,ra,cb,wb,pb,Bb,db r ea,Bc]
   |true=>
    rw[L]at A;simp only[if_true]at A;rw[A]at v K;by_cases D:(s.drop k)[p]?=some 59
    ·rw[if_pos ⟨M,rfl,D⟩]
     have C:([59]:ba).isPrefixOf (s.drop (k+p))=true:=by
      rw[E]at D;cases N:s.drop (k+p)with
      |nil=>grind
      |cons a t=>grind
     have ht:=JT (lib:=lib) HPZ [59] o hs da aa hr G C;rw[l]at ht;refine ma Jx (qa rfl) ?_;simp only[za,ya,sc,Dp]at ht;simp only[go_sem,simprocAttr,Ge,g,J,y,v,K,H,F,ht,xb,cb,wb,pb,Bb,db r ea,Bc,ic]
    ·rw[if_neg (fun h=>D h.2.2)]
     have C:([59]:ba).isPrefixOf (s.drop (k+p))=false:=by
      rw[E]at D;cases N:s.drop (k+p)with
      |nil=>rfl
      |cons a t=>
       grind
     have ht:=IT (lib:=lib) HPZ [59] o hs da aa hr G C;refine⟨k+p,aa,?_⟩;refine ma Jx (qa rfl) ?_;simp only[go_sem,simprocAttr,Ge,g,J,y,v,K,H,F,ht,xb,cb,wb,pb,Bb,db r ea,Bc,ic]
 ·
  obtain⟨hj1,hj2,hj3⟩:=hjZ;dsimp only at hj1 hj2 hj3;have o:(bx.set b (e,rd s j))[b]?=some (e,rd s j):=yg T;have G:∀q∈r,q.1<(bx.set b (e,rd s j)).length:=by rw[Bc];exact ea
  have l:∀q,(bx.set b (e,rd s j)).set b q=bx.set b q:=fun q=>jo ..
  have p:=Xx (lib:=lib) (r:=r) o G;have hpw:=PR u aa;unfold Ji;dsimp only;unfold rd at o p l⊢;by_cases X:j<s.length
  ·have C:s[j]?=some s[j]:=qe X
   obtain⟨c,hcZ⟩:∃c,s[j]=c:=⟨_,rfl⟩;rw[hcZ]at C;have c1:¬s.length<=j:=aa
   have c2:(0:Int)<=(j:Nat):=aa
   by_cases U:u<most
   ·have c3:(u:Int)<most:=aa
    have A:=OY c;have hc256:=c.toNat_lt;obtain⟨x,E⟩:∃x,c.toNat=x:=⟨_,rfl⟩;have B:=u8_or x 32 aa aa;have O:(x|||32)<256:=Nat.or_lt_two_pow (n:=8) aa aa;have e32:((32:Nat):Int)=32:=rfl;rw[e32]at B;rw[E]at A;obtain⟨y,hyZ⟩:∃y,(x|||32)=y:=⟨_,rfl⟩;rw[hyZ]at B A O;obtain⟨v,F⟩:∃v,wd x=v:=⟨_,rfl⟩;rw[F]at A;have J:=jg (k:=j) aa;have K:=jg (k:=u) aa;have hexit:∀z:Int,(base:Int)<=z->((base:Int)<=z)=True:=fun z h=>eq_true h
    rcases(show(48<=x/\x<=57/\v=x - 48)\/(¬(48<=x/\x<=57)/\97<=y/\y<=102/\v=y - 87)\/(¬(48<=x/\x<=57)/\¬(97<=y/\y<=102)/\v=99) by
     grind)with⟨M,N,p3Z⟩|⟨M,N,p3Z,p4Z⟩|⟨M,N,p3Z⟩
    ·have M:(48:Int)<=(x:Nat):=aa
     have L:((x:Nat):Int)<=57:=aa
     have P:IntKind.u8.wrap ((x:Int) - 48)=((v:Nat):Int):=by rw[Mj aa];omega
     have W:IntKind.i64.wrap ((v:Nat):Int)=((v:Nat):Int):=wrap64 aa;by_cases w:v<base
     ·have H:¬(base:Int)<=(v:Nat):=aa
      have Y:IntKind.i64.wrap ((n:Int)* (base:Int))=((n* base:Nat):Int):=by rw[wrap64 ia];rfl
      have Z:IntKind.i64.wrap (((n* base:Nat):Int)+(v:Int))=((n* base+v:Nat):Int):=Kw ia;simp only[U,C,E,F,w,if_true,Vb];simp only[sk,go_sem,simprocAttr,o,p,l,E,xb,cb,wb,pb,Bb,Hf r hr,Na,Xc,C,Kg,c1,c2,c3,M,L,H,J,K,P,W,Y,Z,cc,Bc,db r ea,ic]
     ·have H:(base:Int)<=(v:Nat):=aa
      simp only[U,C,E,F,w,if_true,if_false,Vb];simp only[sk,go_sem,simprocAttr,o,p,l,E,xb,cb,wb,pb,Bb,Hf r hr,Na,Xc,C,Kg,c1,c2,c3,M,L,H,J,K,P,W,cc,Bc,db r ea,ic]
    ·have M:(97:Int)<=(y:Nat):=aa
     have R:((y:Nat):Int)<=102:=aa
     have P:IntKind.u8.wrap ((y:Int) - 97)=((y - 97:Nat):Int):=by rw[Mj aa];omega
     have W:IntKind.i64.wrap ((y - 97:Nat):Int)=((y - 97:Nat):Int):=wrap64 aa;have N:IntKind.i64.wrap (((y - 97:Nat):Int)+10)=((v:Nat):Int):=by rw[wrap64 aa];omega
     have hno:(if(48:Int)<=(x:Nat)then decide (((x:Nat):Int)<=57)else false)=false:=by
      split
      ·grind
      ·rfl
     by_cases D:(48:Int)<=(x:Nat)
     ·have L:¬((x:Nat):Int)<=57:=aa
      by_cases w:v<base
      ·have H:¬(base:Int)<=(v:Nat):=aa
       have Y:IntKind.i64.wrap ((n:Int)* (base:Int))=((n* base:Nat):Int):=by rw[wrap64 ia];rfl
       have Z:IntKind.i64.wrap (((n* base:Nat):Int)+(v:Int))=((n* base+v:Nat):Int):=Kw ia;simp only[U,C,E,F,w,if_true,Vb];simp only[sk,go_sem,simprocAttr,o,p,l,E,B,xb,cb,wb,pb,Bb,Hf r hr,Na,Xc,C,Kg,c1,c2,c3,D,L,H,M,R,J,K,P,W,Y,Z,N,cc,Bc,db r ea,ic]
      ·have H:(base:Int)<=(v:Nat):=aa
       simp only[U,C,E,F,w,if_true,if_false,Vb];simp only[sk,go_sem,simprocAttr,o,p,l,E,B,xb,cb,wb,pb,Bb,Hf r hr,Na,Xc,C,Kg,c1,c2,c3,D,L,H,M,R,J,K,P,W,N,cc,Bc,db r ea,ic]
     ·by_cases w:v<base
      ·have H:¬(base:Int)<=(v:Nat):=aa
       have Y:IntKind.i64.wrap ((n:Int)* (base:Int))=((n* base:Nat):Int):=by rw[wrap64 ia];rfl
       have Z:IntKind.i64.wrap (((n* base:Nat):Int)+(v:Int))=((n* base+v:Nat):Int):=Kw ia;simp only[U,C,E,F,w,if_true,Vb];simp only[sk,go_sem,simprocAttr,o,p,l,E,B,xb,cb,wb,pb,Bb,Hf r hr,Na,Xc,C,Kg,c1,c2,c3,D,H,M,R,J,K,P,W,Y,Z,N,cc,Bc,db r ea,ic]
      ·have H:(base:Int)<=(v:Nat):=aa
       simp only[U,C,E,F,w,if_true,if_false,Vb];simp only[sk,go_sem,simprocAttr,o,p,l,E,B,xb,cb,wb,pb,Bb,Hf r hr,Na,Xc,C,Kg,c1,c2,c3,D,H,M,R,J,K,P,W,N,cc,Bc,db r ea,ic]
    ·have w:¬v<base:=by rcases V with rfl|rfl<;>omega
     have H:(base:Int)<=(base:Int):=Int.le_refl _;have N:=eq_true H;simp only[U,C,E,F,w,if_true,if_false,Vb];by_cases D:(48:Int)<=(x:Nat)<;>by_cases M:(97:Int)<=(y:Nat)
     ·have L:¬((x:Nat):Int)<=57:=aa
      have R:¬((y:Nat):Int)<=102:=aa
      simp only[sk,go_sem,simprocAttr,o,p,l,E,B,xb,cb,wb,pb,Bb,Hf r hr,Na,Xc,C,Kg,c1,c2,c3,D,M,L,R,N,cc,Bc,db r ea,ic]
     ·have L:¬((x:Nat):Int)<=57:=aa
      simp only[sk,go_sem,simprocAttr,o,p,l,E,B,xb,cb,wb,pb,Bb,Hf r hr,Na,Xc,C,Kg,c1,c2,c3,D,M,L,N,cc,Bc,db r ea,ic]
     ·have R:¬((y:Nat):Int)<=102:=aa
      simp only[sk,go_sem,simprocAttr,o,p,l,E,B,xb,cb,wb,pb,Bb,Hf r hr,Na,Xc,C,Kg,c1,c2,c3,D,M,R,N,cc,Bc,db r ea,ic]
     ·simp only[sk,go_sem,simprocAttr,o,p,l,E,B,xb,cb,wb,pb,Bb,Hf r hr,Na,Xc,C,Kg,c1,c2,c3,D,M,N,cc,Bc,db r ea,ic]
   ·have c3:¬(u:Int)<most:=aa
    simp only[U,if_false,Vb];simp only[sk,go_sem,simprocAttr,o,p,xb,cb,wb,pb,Bb,c1,c3,ic]
  ·have C:s[j]?=none:=Ie aa
   have c1:s.length<=j:=aa
   have v:(if u<most then(Sum.inr (n,j):(Nat×Nat×Nat) ⊕ (Nat×Nat))else .inr (n,j))=.inr (n,j):=by split<;>rfl
   simp only[C,v,Vb];simp only[sk,go_sem,simprocAttr,o,p,xb,cb,wb,pb,Bb,c1,ic]
 ·simp only[go_sem,simprocAttr,xb,cb,Bc,db r ea]
 grind [Ji,Nat.pow_succ]
theorem s_(z:sd lib){bx}{r}{b e}{s}{k}(y:bx[b]?=some (e,rd s k))(hs:s.length<=1000000000)(C:k<=s.length)(hr:∀q∈r,q≠(b,1))(ea:∀q∈r,q.1<bx.length):
 match On (s.drop k)with
 |some (x,c)=>fa code lib 246 [.ptr b 0] bx (cl r)=some ([.flat (.string (S x)),.flat (.bool true)],false,bx.set b (e,rd s (k+c)),cl r)
 |none=>∃k',k'<=s.length/\fa code lib 246 [.ptr b 0] bx (cl r)=some ([.flat (.string (S [])),.flat (.bool false)],false,bx.set b (e,rd s k'),cl r):=by
 have o:=(qg y).1;have l:∀w:ba,w.length<=10->w.isPrefixOf (s.drop k)=true->fa code lib 178 [.ptr b 0,.flat (.string (S w))] bx (cl r)=some ([.flat (.bool true)],false,bx.set b (e,rd s (k+w.length)),cl r):=fun w E h=>JT z w y hs aa C hr ea h
 have j:∀w:ba,w.length<=10->w.isPrefixOf (s.drop k)=false->fa code lib 178 [.ptr b 0,.flat (.string (S w))] bx (cl r)=some ([.flat (.bool false)],false,bx,cl r):=fun w E h=>IT z w y hs aa C hr ea h
 have num:∀(w:ba)(base most:Nat),base=16\/base=10->most<=7->w.isPrefixOf (s.drop k)=true->match ql base most (s.drop (k+w.length))with
  |some (x,c)=>fa code lib 281 [.ptr b 0,.flat (.int .i64 (base:Nat)),.flat (.int .i64 (most:Nat))] (bx.set b (e,rd s (k+w.length))) (cl r)=some ([.flat (.string (S x)),.flat (.bool true)],false,bx.set b (e,rd s (k+w.length+c)),cl r)
  |none=>∃k',k'<=s.length/\fa code lib 281 [.ptr b 0,.flat (.int .i64 (base:Nat)),.flat (.int .i64 (most:Nat))] (bx.set b (e,rd s (k+w.length))) (cl r)=some ([.flat (.string (S [])),.flat (.bool false)],false,bx.set b (e,rd s k'),cl r):=fun w base most t u v=>by
  have i:=xk v;rw[Ya]at i;have:=p7 (lib:=lib) z (bx:=bx.set b (e,rd s (k+w.length))) (r:=r) (b:=b) (e:=e) (s:=s) (k:=k+w.length) (base:=base) (most:=most) (yg o) hs aa hr ia t u;simp only[jo]at this;omega
 have g:=xp y;unfold On;cases t:([38,97,109,112,59]:ba).isPrefixOf (s.drop k)with
 |true=>
  have a:=l _ ga t;rw[if_pos rfl];refine ma rn (qa rfl) ?_;simp only[za,ya,sc]at a;simp only[go_sem,simprocAttr,Ge,a,xb,cb,wb,pb,Bb,db r ea,Bc,ic]
 |false=>
 have a:=j _ ga t;rw[if_neg da];cases u:([38,108,116,59]:ba).isPrefixOf (s.drop k)with
 |true=>
  have t2:=l _ ga u;rw[if_pos rfl];refine ma rn (qa rfl) ?_;simp only[za,ya,sc]at t2;simp only[go_sem,simprocAttr,Ge,a,t2,xb,cb,wb,pb,Bb,db r ea,Bc,ic]
 |false=>
 have t2:=j _ ga u;rw[if_neg da];cases v:([38,103,116,59]:ba).isPrefixOf (s.drop k)with
 |true=>
  have t3:=l _ ga v;rw[if_pos rfl];refine ma rn (qa rfl) ?_;simp only[za,ya,sc]at t3;simp only[go_sem,simprocAttr,Ge,a,t2,t3,xb,cb,wb,pb,Bb,db r ea,Bc,ic]
 |false=>
 have t3:=j _ ga v;rw[if_neg da];cases D:([38,113,117,111,116,59]:ba).isPrefixOf (s.drop k)with
 |true=>
  have t4:=l _ ga D;rw[if_pos rfl];refine ma rn (qa rfl) ?_;simp only[za,ya,sc]at t4;simp only[go_sem,simprocAttr,Ge,a,t2,t3,t4,xb,cb,wb,pb,Bb,db r ea,Bc,ic]
 |false=>
 have t4:=j _ ga D;rw[if_neg da];cases A:([38,35,120]:ba).isPrefixOf (s.drop k)with
 |true=>
  have t5:=l _ ga A;have i:=num _ 16 6 (.inl rfl) ga A;rw[if_pos rfl];simp only[za,ya,sc,Nat.reduceAdd,JA]at t5 i;rw[rf];cases n:ql 16 6 (s.drop (k+3))with
  |some q=>
   obtain⟨x,c⟩:=q;rw[n]at i;simp only[kd];rw[show k+(3+c)=k+3+c by omega];refine ma rn (qa rfl) ?_;simp only[go_sem,simprocAttr,Ge,a,t2,t3,t4,t5,i,xb,cb,wb,pb,Bb,db r ea,Bc,ic]
  |none=>
   rw[n]at i;obtain⟨k',d,i⟩:=i;simp only[Vi];refine⟨k',d,?_⟩;refine ma rn (qa rfl) ?_;simp only[go_sem,simprocAttr,Ge,a,t2,t3,t4,t5,i,xb,cb,wb,pb,Bb,db r ea,Bc,ic]
 |false=>
 have t5:=j _ ga A;rw[if_neg da];cases B:([38,35]:ba).isPrefixOf (s.drop k)with
 |true=>
  have p:=l _ ga B;have i:=num _ 10 7 (.inr rfl) ga B;rw[if_pos rfl];simp only[za,ya,sc,Nat.reduceAdd,JA]at p i;rw[rf];cases n:ql 10 7 (s.drop (k+2))with
  |some q=>
   obtain⟨x,c⟩:=q;rw[n]at i;simp only[kd];rw[show k+(2+c)=k+2+c by omega];refine ma rn (qa rfl) ?_;simp only[go_sem,simprocAttr,Ge,a,t2,t3,t4,t5,p,i,xb,cb,wb,pb,Bb,db r ea,Bc,ic]
  |none=>
   rw[n]at i;obtain⟨k',d,i⟩:=i;simp only[Vi];refine⟨k',d,?_⟩;refine ma rn (qa rfl) ?_;simp only[go_sem,simprocAttr,Ge,a,t2,t3,t4,t5,p,i,xb,cb,wb,pb,Bb,db r ea,Bc,ic]
 |false=>
 have p:=j _ ga B;rw[if_neg da];refine⟨k,C,?_⟩;rw[g];refine ma rn (qa rfl) ?_;simp only[go_sem,simprocAttr,Ge,a,t2,t3,t4,t5,p,cb,wb,pb,Bb,db r ea,ic]
def Tz{n}{s}{k}:La n (rd s k)=true:=rfl
def sx{b}{l}:bld false b [] l=PV.flat (.pointer none)::PV.ha 0 []::l:=rfl
theorem zac(W:sd lib)(N:pe lib){bx}{r}{b e}{s}{k}{en bd}(U:bx[b]?=some (e,rd s k))(E:Cc bx.length bx=true)(hs:s.length<=100000000)(Z:k<=s.length)(hr:∀q∈r,q≠(b,1))(ea:∀q∈r,q.1<bx.length):
 match ti s en bd k with
 |some (x,p)=>fa code lib 184 [.ptr b 0,.flat (.int .u8 en.toNat),.flat (.int .u8 bd.toNat)] bx (cl r)=some ([.flat (.string (S x)),.flat (.bool true)],false,bx.set b (e,rd s p),cl r)
 |none=>∃k',k'<=s.length/\fa code lib 184 [.ptr b 0,.flat (.int .u8 en.toNat),.flat (.int .u8 bd.toNat)] bx (cl r)=some ([.flat (.string (S [])),.flat (.bool false)],false,bx.set b (e,rd s k'),cl r):=by
 have i:=(qg U).1;obtain⟨r',v⟩:∃r',r'=(bx.length,1)::r:=⟨_,rfl⟩;have D:Loc.cell bx.length 1::cl r=cl r':=by rw[v];rfl
 have F:∀q∈r',q.1<bx.length+1:=by rw[v];exact I6 (x:=(0,0)) ea
 have I:∀q∈r',q≠(b,1):=by
  rw[v];intro q A;rcases Wb.1 A with rfl|A
  ·grind
  ·grind
 have H:∀q∈r,q≠(bx.length,1):=fun q A h=>by grind
 have Y:ad (Loc.cell bx.length 1) (cl r')=cl r:=by
  rw[v];show ad _ (Loc.cell bx.length 1::cl r)=_;simp only[Lu,and_self,if_true,mn r H,if_false]
 have T:Nb bx.length (cl r')=cl r:=by
  rw[v];show Nb _ (Loc.cell bx.length 1::cl r)=_;simp only[Gk,Nat.lt_irrefl,if_false,db r ea]
 have t:∀q∈r,q.1<bx.length+1:=fun q A=>Nat.lt_succ_of_lt (ea q A)
 have R:∀(j:Nat)(x:ba)(u:Bool)(out:ba),out.length+x.length<=Da->fa code lib 45 [.ptr bx.length 0,.flat (.string (S x))] (bx.set b (e,rd s j)++[(101,bld u bx.length out [])]) (cl r')=some ([.flat (.int .i64 x.length),.flat .nilIface],false,bx.set b (e,rd s j)++[(101,bld true bx.length (out++x) [])],cl r'):=fun j x u out h=>by
  have:=Hl (lib:=lib) (r:=r) (m:=x) N (Bo (bx:=bx) (b:=b) (x:=(e,rd s j)) (q:=(101,bld u bx.length out []))) Hs h H (by rw[Rj];exact t);rw[aq,D]at this;exact this
 have Q:∀(j:Nat)(x:UInt8)(u:Bool)(out:ba),out.length+1<=Da->fa code lib 44 [.ptr bx.length 0,.flat (.int .u8 x.toNat)] (bx.set b (e,rd s j)++[(101,bld u bx.length out [])]) (cl r')=some ([.flat .nilIface],false,bx.set b (e,rd s j)++[(101,bld true bx.length (out++[x]) [])],cl r'):=fun j x u out h=>by
  have:=hI (lib:=lib) (r:=r) (c:=x) N (Bo (bx:=bx) (b:=b) (x:=(e,rd s j)) (q:=(101,bld u bx.length out []))) Hs h H (by rw[Rj];exact t);rw[aq,D]at this;exact this
 have hrel:=In (body:=pa (fa code lib) ka VB) (live:=[0,1,2,8]) (nb:=bx.length+1)
  (fun(u:Bool)(q:ba×Nat)=>(⟨[(0,.ptr b 0),(1,.flat (.int .u8 en.toNat)),(2,.flat (.int .u8 bd.toNat)),(8,.ptr bx.length 0)],cl r',[],bx.set b (e,rd s q.2)++[(101,bld u bx.length q.1 [])]⟩:St))
  (Ti s en bd) none (fun a o st=>match a with
    |some q=>o=.exit 0/\∃u,st=⟨[(8,.ptr bx.length 0)],cl r',[],bx.set b (e,rd s q.2)++[(101,bld u bx.length q.1 [])]⟩
    |none=>o=.ret/\∃k' y,k'<=s.length/\st=⟨[(6,.flat (.string (S []))),(7,.flat (.bool false))],cl r',[],bx.set b (e,rd s k')++[y]⟩)
  (fun a=>a.2<=s.length/\k<=a.2/\a.1.length<=4* (a.2 - k)) (fun a=>s.length - a.2) (fun u ⟨out,j⟩ M=>?_) (fun u ⟨out,j⟩ M=>?_) (fun a c M h=>tH k a c M h) (n:=s.length+1) (m:=ka) false ([],k) ⟨Z,la _,da⟩ aa (by grind [ka])
 ·obtain⟨o,st,w,A⟩:=hrel
  have d:hc (Ti s en bd) none (s.length+1) ([],k)=ti s en bd k:=rfl;rw[d]at A;dsimp only at w;rw[xp U,sx]at w;cases B:ti s en bd k with
  |some q=>
   obtain⟨x,p⟩:=q;rw[B]at A;obtain⟨rfl,u,rfl⟩:=A;dsimp only at w⊢;have z:=xt (lib:=lib) (oc:=cl r') (u:=u) (l:=x) (rest:=[]) N (Bo (bx:=bx) (b:=b) (x:=(e,rd s p)) (q:=(101,bld u bx.length x []))) (by rw[v];exact Mt);have g:=oQ (b:=b) (q:=(e,rd s p)) Tz E;refine ma HM (qa rfl) ?_;simp(maxSteps:=999999) (disch:=first|assumption|omega) only[go_sem,simprocAttr,au,D,w,z,Y,g,Tz,fJ,Ja]
  |none=>
   rw[B]at A;obtain⟨rfl,k',y,G,rfl⟩:=A;dsimp only at w⊢;have g:=oQ (b:=b) (q:=(e,rd s k')) Tz E;refine⟨k',G,?_⟩;refine ma HM (qa rfl) ?_;simp(maxSteps:=999999) (disch:=first|assumption|omega) only[go_sem,simprocAttr,au,D,w,T,g,Tz,Rj,fJ,Ja]
 ·
  dsimp only at M;have g:=Xx (lib:=lib) (r:=r') (Ao (x:=(e,rd s j)) (q:=(101,bld u bx.length out [])) i) (by rw[Rj];exact F);dsimp only;by_cases t:j<s.length
  ·have B:s[j]?=some s[j]:=qe t
   obtain⟨c,X⟩:∃c,s[j]=c:=⟨_,rfl⟩;rw[X]at B;unfold Ti;simp only[B];by_cases K:c=en
   ·rw[if_pos K]
    have w:=congrArg UInt8.toNat K;refine⟨.exit 0,⟨[(8,.ptr bx.length 0)],cl r',[],bx.set b (e,rd s j)++[(101,bld u bx.length out [])]⟩,?_,da,rfl,u,rfl⟩;simp only[rd,Xi]at g⊢;simp(maxSteps:=999999) (disch:=first|assumption|omega) only[go_sem,simprocAttr,au,Xs,g,B,Ao,Bo,Zp,aq,Rj]
   ·rw[if_neg K]
    have w:=eq_false fun h=>K (Yb.1 h)
    by_cases L:c=bd
    ·rw[if_pos L]
     have z:=eq_true (congrArg UInt8.toNat L);refine⟨.ret,⟨[(6,.flat (.string (S []))),(7,.flat (.bool false))],cl r',[],bx.set b (e,rd s j)++[(101,bld u bx.length out [])]⟩,?_,da,rfl,j,_,aa,rfl⟩;simp only[rd,Xi]at g⊢;simp(maxSteps:=999999) (disch:=first|assumption|omega) only[go_sem,simprocAttr,au,Xs,g,B,w,z,Ao,Rj]
    ·rw[if_neg L]
     have z:=eq_false fun h=>L (Yb.1 h)
     by_cases O:c=38
     ·rw[if_pos O]
      have C:(c.toNat=38)=True:=eq_true ie;have d:=s_ (lib:=lib) W (r:=r') (Ao (x:=(e,rd s j)) (q:=(101,bld u bx.length out [])) i) aa (by omega:j<=s.length) I (by rw[Rj];exact F);cases P:On (s.drop j)with
      |none=>
       rw[P]at d;obtain⟨k',G,d⟩:=d;rw[Zp i]at d;dsimp only;refine⟨.ret,⟨[(6,.flat (.string (S []))),(7,.flat (.bool false))],cl r',[],bx.set b (e,rd s k')++[(101,bld u bx.length out [])]⟩,?_,da,rfl,k',_,G,rfl⟩;simp only[rd,Xi]at g d⊢;simp(maxSteps:=999999) (disch:=first|assumption|omega) only[go_sem,simprocAttr,au,Xs,g,d,B,w,z,C,Ao,Bo,Zp,aq,Rj]
      |some q=>
       obtain⟨x,n⟩:=q;rw[P]at d;dsimp only at d⊢;rw[Zp i]at d;have V:=JG P;rw[Ya]at V;dsimp only at V;have J:=R (j+n) x u out Me;refine⟨true,?_⟩;simp only[rd,Wi]at g d J⊢;simp(maxSteps:=999999) (disch:=first|assumption|omega) only[go_sem,simprocAttr,au,Xs,g,d,J,B,w,z,C,Ao,Bo,Zp,aq,Rj]
     ·rw[if_neg O]
      have C:(c.toNat=38)=False:=eq_false fun h=>O (Yb.1 h)
      have J:=Q j c u out Me;refine⟨true,?_⟩;simp only[rd,Wi,Xi]at g J⊢;simp(maxSteps:=999999) (disch:=first|assumption|omega) only[go_sem,simprocAttr,au,Xs,g,J,B,w,z,C,Ao,Bo,Zp,aq,Rj]
  ·have B:s[j]?=none:=Ie aa
   unfold Ti;simp only[B];refine⟨.exit 0,⟨[(8,.ptr bx.length 0)],cl r',[],bx.set b (e,rd s j)++[(101,bld u bx.length out [])]⟩,?_,da,rfl,u,rfl⟩;simp only[rd,Xi]at g⊢;simp(maxSteps:=999999) (disch:=first|assumption|omega) only[go_sem,simprocAttr,au,Xs,g,B,Ao,Bo,Zp,aq,Rj]
 ·simp(maxSteps:=999999) (disch:=first|assumption|omega) only[go_sem,simprocAttr,au,Rj]
theorem fI{s}{fin}{g:Nat->Out×St}:∀(L:List ba)(k),(L.contains s=false/\jd (fun(_:Unit) k x=>if x=s then .inr (g k)else .inl ()) fin () k L=fin ())\/(L.contains s=true/\∃j,j<k+L.length/\jd (fun(_:Unit) k x=>if x=s then .inr (g k)else .inl ()) fin () k L=g j)
 |[],k=>.inl ⟨rfl,rfl⟩
 |x::t,k=>by
  rw[jd,List.contains_cons];by_cases h:x=s
  ·grind
  ·rw[if_neg h]
   dsimp only;have b:(s==x)=false:=by simpa using fun e=>h e.symm
   rw[b,Ch];rcases fI (fin:=fin) (g:=g) t (k+1)with a|⟨a,j,c,d⟩
   ·exact .inl a
   grind
def M1(L)(s)(n:L.length<=1000000):∃i,(L.contains s=decide (0<=i))/\fa code lib 278 [.ha L.length (ua L),.flat (.string (S s))] [] []=some ([.flat (.int .i64 i)],false,[],[]):=by
 have a:=Nf (body:=pa (fa code lib) ka QB) (live:=[0,1,7,8]) (nb:=0) (fun(_:Unit) k=>⟨[(0,.ha L.length (ua L)),(1,.flat (.string (S s))),(7,.flat (.int .i64 (L.length:Nat))),(8,.flat (.int .i64 (k:Nat)))],[],[],[]⟩) L (fun _ _=>True)
  (fun _ k x=>if x=s then .inr (.ret,⟨[(4,.flat (.int .i64 (k:Nat)))],[],[],[]⟩)else .inl ()) (fun _=>(.exit 0,⟨[],[],[],[]⟩)) (fun _ k x _ c l b=>?_) (fun _ _=>by simp only[go_sem,simprocAttr]) (fun _ _ _ _ _ _ _ _=>trivial) (fun _ _ x r h=>by split at h<;>simp at h;rw[<-h];simp) (fun _ _=>?_) (fun _=>by simp) () trivial Kh
 ·simp only[n0]at a
  rcases fI (s:=s) (fin:=fun _=>(.exit 0,⟨[],[],[],[]⟩)) (g:=fun k=>(.ret,⟨[(4,.flat (.int .i64 (k:Nat)))],[],[],[]⟩)) L 0 with⟨c,b⟩|⟨c,j,b,d⟩
  ·rw[b]at a
   refine⟨-1,ia,?_⟩;refine ma GM (qa rfl) ?_;have o:Int.negSucc 0=-1:=rfl;exact va @bc
  ·rw[d]at a
   refine⟨j,ia,?_⟩;refine ma GM (qa rfl) ?_;exact va @bc
 ·have b:(ua L)[k]?=some (.flat (.string (S x))):=by simp only[ua,Bw,l,kd]
  have d:(ua L).drop k=.flat (.string (S x))::(ua L).drop (k+1):=by
   rw[ld ia];rw[qe ia,Xb]at b;rw[b]
  by_cases h:x=s
  ·have c:=eq_true h.symm
   rw[if_pos h];exact Rc FG @bc
  ·have c:(s=x)=False:=eq_false fun e=>h e.symm
   rw[if_neg h];exact Rc FG @bc
 ·exact va FG
def NM(L)(s)(b:L.length<=1000000):fa code lib 241 [.ha L.length (ua L),.flat (.string (S s))] [] []=some ([.flat (.bool (L.contains s))],false,[],[]):=by
 obtain⟨i,a,c⟩:=M1 (lib:=lib) L s b;refine ma RX (qa rfl) ?_;rw[a];exact va @Od
def uN(s):fa code lib 181 [.flat (.string (S s))] [] []=some ([.flat (.bool (Vf.contains s))],false,[],[]):=by
 have h:=NM (lib:=lib) Vf s ga;obtain⟨v,a⟩:∃v,Vf.contains s=v:=⟨_,rfl⟩;rw[a]at h⊢;simp only[ua,Vf,kc,Bf,za,ya,sc,Nat.reduceAdd]at h;refine ma XX (qa rfl) ?_;exact ta
def VU(s):fa code lib 279 [.flat (.string (S s))] [] []=some ([.flat (.bool (Ok.contains s))],false,[],[]):=by
 have h:=NM (lib:=lib) Ok s ga;obtain⟨v,a⟩:∃v,Ok.contains s=v:=⟨_,rfl⟩;rw[a]at h⊢;simp only[ua,Ok,kc,Bf,za,ya,sc,Nat.reduceAdd]at h;refine ma VX (qa rfl) ?_;exact ta
def zdO(s):fa code lib 182 [.flat (.string (S s))] [] []=some ([.flat (.bool (xi s))],false,[],[]):=by
 refine ma UX (qa rfl) ?_;unfold xi;rcases Ka (s=[98,114])with a|a<;>rcases Ka (s=[104,114])with b|b<;>rcases Ka (s=[105,109,103])with c|c
 all_goals
  first|have d:=eq_false a|have d:=eq_true a
  first|have e:=eq_false b|have e:=eq_true b
  first|have g:=eq_false c|have g:=eq_true c
  clear a b c;exact ta
variable {lib:Callee}
structure Eb (B:Nat→Ha) (n b e:Nat) (s:ba) (r:List (Nat × Nat)):Prop where
 len:∀ j,(B j).length=n
 get:∀ j,(B j)[b]? =some (e,rd s j)
 set:∀ i j,(B j).set b (e,rd s i)=B i
 lt:b<n
 low:∀ j,Cc n (B j)=true
 hs:s.length≤100000000
 hr:∀ q∈r,q≠(b,1)
 ea:∀ q∈r,q.1<n
section
variable {B:Nat→Ha} {n b e:Nat} {s:ba} {r:List (Nat × Nat)}
def Eb.app(H:Eb B n b e s r){m}(ys)(c:n+ys.length=m)(a:Cc m ys=true):Eb (fun j=>B j++ys) m b e s r where
 len j:=by rw[Ja,H.len];exact c
 get j:=by grind [get]
 set i j:=by rw[OA _ _ (by rw[H.len];exact H.lt),H.set]
 lt:=by have:=H.lt;omega
 low j:=by rw[yv,vu aa _ (H.low j),a];rfl
 hs:=H.hs
 hr:=H.hr
 ea q hq:=by have:=H.ea q hq;omega
def Eb.Ym(H:Eb B n b e s r)(j)(ys):(B j++ys)[b]?=some (e,rd s j):=by grind [get]
def Eb.Xm(H:Eb B n b e s r)(j)(ys):(B j++ys)[n]?=ys[0]?:=by rw[He (by rw[H.len];omega),H.len,Nat.sub_self]
def Eb.aj(H:Eb B n b e s r)(j i)(ys):(B j++ys)[n+i]?=ys[i]?:=by rw[He (by rw[H.len];omega),H.len,oh]
def Eb.Pl(H:Eb B n b e s r)(i j)(ys):(B j++ys).set b (e,rd s i)=B i++ys:=by rw[OA _ _ (by rw[H.len];exact H.lt),H.set]
def Eb.Zm(H:Eb B n b e s r)(j)(ys)(q):(B j++ys).set n q=B j++ys.set 0 q:=by rw[io _ _ (by rw[H.len];omega),H.len,Nat.sub_self]
def Eb.an(H:Eb B n b e s r)(j i)(ys)(q):(B j++ys).set (n+i) q=B j++ys.set i q:=by rw[io _ _ (by rw[H.len];omega),H.len,oh]
def Eb.rh(H:Eb B n b e s r)(j)(ys):(B j++ys).length=n+ys.length:=by rw[Ja,H.len]
def Eb.Ql(H:Eb B n b e s r)(j)(ys):(B j++ys).take n=B j:=by rw[lI (by rw[H.len];omega),Rf (by rw[H.len];omega)]
def Eb.bn(H:Eb B n b e s r)(j i)(ys):(B j++ys).take (n+i)=B j++ys.take i:=by
 rw[List.take_append,H.len,oh,Rf (by rw[H.len];omega)]
def Eb.fm(H:Eb B n b e s r)(o m):Qc n o m (cl r)=cl r:=Nr r H.ea
def Eb.tn(H:Eb B n b e s r)(i o m):Qc (n+i) o m (cl r)=cl r:=Nr r fun q a=>by have:=H.ea q a;omega
def Eb.Bj(H:Eb B n b e s r):Nb n (cl r)=cl r:=db r H.ea
def Eb.Fk(H:Eb B n b e s r)(i):Nb (n+i) (cl r)=cl r:=db r fun q a=>by have:=H.ea q a;omega
def Eb.done(H:Eb B n b e s r)(k):fa code lib 111 [.ptr b 0] (B k) (cl r)=some ([.flat (.bool (decide (s.length<=k)))],false,B k,cl r):=
 Xx (H.get k) (by rw[H.len];exact H.ea)
def Eb.take(H:Eb B n b e s r)(a:sd lib)(w){k}(c:k<=s.length)(d:w.length<=1000000000):fa code lib 178 [.ptr b 0,.flat (.string (S w))] (B k) (cl r)=some ([.flat (.bool (w.isPrefixOf (s.drop k)))],false,B (if w.isPrefixOf (s.drop k)then k+w.length else k),cl r):=by
 have:=H.hs;have h:=OH a (w:=w) (H.get k) aa d c H.hr (by rw[H.len];exact H.ea);rw[H.set]at h;exact h
def Eb.word(H:Eb B n b e s r){k:Nat}(a:k<=s.length):fa code lib 179 [.ptr b 0,.fb 180 []] (B k) (cl r)=some ([.flat (.string (S (Ib s k)))],false,B (k+(Ib s k).length),cl r):=by
 have:=H.hs;have h:=nU (lib:=lib) (f:=180) (p:=rm) (H.get k) aa a H.hr (by rw[H.len];exact H.ea) ga f6;rw[H.set]at h;exact h
def Eb.A1(H:Eb B n b e s r){k:Nat}(a:k<=s.length):fa code lib 179 [.ptr b 0,.fb 242 []] (B k) (cl r)=some ([.flat (.string (S (ch s k)))],false,B (k+(ch s k).length),cl r):=by
 have:=H.hs;have h:=nU (lib:=lib) (f:=242) (p:=Ko) (H.get k) aa a H.hr (by rw[H.len];exact H.ea) ga tV;rw[H.set]at h;exact h
theorem Eb.QS(H:Eb B n b e s r)(c:sd lib)(a:pe lib){k}{en bd}(d:k<=s.length):
 match ti s en bd k with
 |some (x,p)=>fa code lib 184 [.ptr b 0,.flat (.int .u8 en.toNat),.flat (.int .u8 bd.toNat)] (B k) (cl r)=some ([.flat (.string (S x)),.flat (.bool true)],false,B p,cl r)
 |none=>∃k',k'<=s.length/\fa code lib 184 [.ptr b 0,.flat (.int .u8 en.toNat),.flat (.int .u8 bd.toNat)] (B k) (cl r)=some ([.flat (.string (S [])),.flat (.bool false)],false,B k',cl r):=by
 have h:=zac (lib:=lib) (en:=en) (bd:=bd) c a (H.get k) (by rw[H.len];exact H.low k) H.hs d H.hr (by rw[H.len];exact H.ea);simp only[H.set]at h;exact h
end
def Um{s}{k}(h:k<=s.length):k+(Ib s k).length<=s.length:=by
 grind [List.takeWhile_prefix,Ib]
def ry{s}{k}(h:k<=s.length):k+(ch s k).length<=s.length:=by
 grind [List.takeWhile_prefix,ch]
theorem ZG{s:ba}{k}{c}:([c]:ba).isPrefixOf (s.drop k)=decide (s[k]?=some c):=by
 have a:s[k]?=(s.drop k)[0]?:=by rw[Fj,Cj]
 rw[a];cases s.drop k<;>grind
def ib(a:Nj):List PV:=[.flat (.string (S a.name)),.flat (.string (S a.val)),.flat (.int .i64 (a.fr:Nat)),.flat (.int .i64 (a.to:Nat))]
theorem UU{B}{n b e}{s}{r}(H:Eb B n b e s r)(W:sd lib)(HBZ:pe lib){k}(hkZ:k<=s.length):
 match Co s k with
 |some (a,p)=>fa code lib 243 [.ptr b 0] (B k) (cl r)=some ([.agg (ib a),.flat (.bool true)],false,B p,cl r)
 |none=>∃a k',k'<=s.length/\fa code lib 243 [.ptr b 0] (B k) (cl r)=some ([.agg (ib a),.flat (.bool false)],false,B k',cl r):=by
 have h0Z:=H.hs;have Q:=Um hkZ;have i:=H.Ym;have l:=H.Xm;have o:=H.aj;have F:=H.Pl;have t:=H.Zm;have u:=H.an;have x:=H.rh;have y:=H.Ql;have z:=H.bn;have A:=H.len;have c:=H.low;have d:=H.fm;have g:=H.tn;have C:=H.Bj;have D:=H.Fk;have U:(⟨#[]⟩:ByteArray)=S []:=rfl;have X:∀V L,Cc (n+2) [L,V]=true->Eb (fun j=>B j++[L,V]) (n+2) b e s r:=fun V L h=>H.app _ rfl h
 have K1Z:∀L,Cc (n+1) [L]=true->Eb (fun j=>B j++[L]) (n+1) b e s r:=fun L h=>H.app _ rfl h
 have O:=(K1Z (282,[.flat (.string (S [])),.flat (.string (S [])),.flat (.int .i64 0),.flat (.int .i64 0)]) rfl).word (lib:=lib) hkZ;have I:=VU (lib:=lib) (Ib s k);unfold Co;obtain⟨w,hwd⟩:∃w,Ib s k=w:=⟨_,rfl⟩;rw[hwd]at O I Q⊢;cases hcZ:Ok.contains w with
 |false=>
  rw[hcZ]at I;refine⟨⟨w,[],0,0⟩,k+w.length,Q,?_⟩;refine ma Hu (qa rfl) ?_;simp(maxSteps:=999999) (disch:=first|assumption|omega) only[go_sem,simprocAttr,au,U,O,I,i,l,o,t,u,x,y,z,A,c,d,g,C,D,rd,ib]
 |true=>
  rw[hcZ]at I;obtain⟨P,hk1⟩:∃P,k+w.length=P:=⟨_,rfl⟩;rw[hk1]at O Q⊢;obtain⟨K,hk2⟩:∃K,P+2=K:=⟨_,rfl⟩;have G:=(X (282,[.flat (.string (S w)),.flat (.string (S [])),.flat (.int .i64 0),.flat (.int .i64 0)]) (282,[.flat (.string (S [])),.flat (.string (S [])),.flat (.int .i64 0),.flat (.int .i64 0)]) rfl).take (lib:=lib) W [61,34] Q ga;have hbu:Wa s [61,34] P=([61,34]:ba).isPrefixOf (s.drop P):=by unfold Wa;simp only[Q,decide_true,pc]
  rw[hbu];cases hpZ:([61,34]:ba).isPrefixOf (s.drop P)with
  |false=>
   rw[hpZ]at G;simp only[Fa,if_false]at G;refine⟨⟨w,[],0,0⟩,P,Q,?_⟩;refine ma Hu (qa rfl) ?_;simp(maxSteps:=999999) (disch:=first|assumption|omega) only[go_sem,simprocAttr,au,U,O,I,G,i,l,o,F,t,u,x,y,z,A,c,d,g,C,D,rd,ib]
  |true=>
   rw[hpZ]at G;have T:=xk hpZ;rw[Ya]at T;simp only[if_true,za,ya,sc,Nat.reduceAdd,hk2]at G T⊢;have h2Z:K<=s.length:=aa
   have E:=(X (282,[.flat (.string (S w)),.flat (.string (S [])),.flat (.int .i64 (K:Nat)),.flat (.int .i64 0)]) (282,[.flat (.string (S [])),.flat (.string (S [])),.flat (.int .i64 0),.flat (.int .i64 0)]) rfl).QS (lib:=lib) (en:=34) (bd:=60) W HBZ h2Z;have Y:((UInt8.toNat 34:Nat):Int)=34:=rfl;have Z:((UInt8.toNat 60:Nat):Int)=60:=rfl;rw[Y,Z]at E;cases hEZ:ti s 34 60 K with
   |none=>
    rw[hEZ]at E;obtain⟨k',v,E⟩:=E;refine⟨⟨w,[],K,k'⟩,k',v,?_⟩;refine ma Hu (qa rfl) ?_;simp(maxSteps:=999999) (disch:=first|assumption|omega) only[go_sem,simprocAttr,au,U,O,I,G,E,i,l,o,F,t,u,x,y,z,A,c,d,g,C,D,rd,ib]
   |some q=>
    obtain⟨v,p⟩:=q;rw[hEZ]at E;have M:=ut h2Z hEZ;dsimp only at E M⊢;have R:=(X (282,[.flat (.string (S w)),.flat (.string (S v)),.flat (.int .i64 (K:Nat)),.flat (.int .i64 (p:Nat))]) (282,[.flat (.string (S [])),.flat (.string (S [])),.flat (.int .i64 0),.flat (.int .i64 0)]) rfl).take (lib:=lib) W [34] M.2.1 ga;rw[ZG]at R;by_cases J:p<s.length
    ·have N:(s[p]?=some 34)=True:=by
      rcases M.2.2.2 with h|h
      ·grind
      ·grind
     simp only[N,decide_true,if_true,za,ya,sc]at R;simp only[tf,if_true,J];refine ma Hu (qa rfl) ?_;simp(maxSteps:=999999) (disch:=first|assumption|omega) only[go_sem,simprocAttr,au,U,O,I,G,E,R,i,l,o,F,t,u,x,y,z,A,c,d,g,C,D,rd,ib,sH]
    ·have N:(s[p]?=some 34)=False:=eq_false ia
     simp only[N,decide_false,Fa,if_false]at R;simp only[tf,if_true,J,if_false];refine⟨⟨w,v,K,p⟩,p,aa,?_⟩;refine ma Hu (qa rfl) ?_;simp(maxSteps:=999999) (disch:=first|assumption|omega) only[go_sem,simprocAttr,au,U,O,I,G,E,R,i,l,o,F,t,u,x,y,z,A,c,d,g,C,D,rd,ib,sH]
end wa

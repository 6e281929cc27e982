/- Texts of this proof, merged. -/
import Derived.Test.YtglaihdcndcmkaaGreatDoorTe
import Derived.RecoverIn
set_option linter.all false
open Go Go.Proofs Go.RowKit Go.Proofs.YtglaihdcndcmkaaGreatDoor
set_option maxHeartbeats 4000000
namespace ya
abbrev pX:=Value×Na×List Loc
abbrev Di:=FuncId->List PV->Na->List Loc->pX->Prop
abbrev ym:=Value×List PV×Na×List Loc
def pk(kl:List Nat)(q:ym):St:=⟨kl.zip q.2.1,q.2.2.2,[],q.2.2.1⟩
def entry(v:Value):List PanicEntry:=[{v:=v,recovered:=false}]
def vm(P:Program)(Γ:ue)(pf:Di):Prop:=∀f args bx oc q,pf f args bx oc q->∀w Fr β vs,wm P Γ w Fr β args vs bx oc->
 Enters P f vs w fun e w'=>e=.panicked (entry q.1)/\∃Fr' β',Ci P w Fr β oc [] false q.2.1 q.2.2 (.tuple #[]) w' Fr' β'
inductive Rt where
 | op (f:FuncId) (k:Nat)
 | l (r:Rt)
 | r (r:Rt)
def pc(st:St):Ea->Option (FuncId×List PV)
 | .call f args=>some (f,args.map fun x=>(x.ev st.sl).ib)
 |_=>none
def Lo(pf:Di)(kl:List Nat)(st:St)(f:FuncId)(args:List PV)(q:ym):Prop:=
 q.2.1=kl.map (look st.sl)/\if Eb args=true then(∃bx oc,pf f args [] [] (q.1,bx,oc))/\q.2.2=(st.bx,st.ow.filter Ba)else pf f args st.bx (st.ow.filter Ba) (q.1,q.2.2)
def NB(cf:Callee)(pf:Di)(kl:List Nat)(f:FuncId)(o:Ta)(k:Nat)(st:St)(q:ym)(K:Nat->St->Prop):Prop:=match fh st o.g with
 |some true=>(match pc st o.op with
  |some (g,args)=>if g=f then(match k with
   |0=>Lo pf kl st f args q
   |k+1=>match stepG cf st o with|some st'=>K k st'|none=>False)
    else match stepG cf st o with|some st'=>K k st'|none=>False
  |none=>match stepG cf st o with|some st'=>K k st'|none=>False)
 |_=>match stepG cf st o with|some st'=>K k st'|none=>False
def Bn(cf:Callee)(pf:Di)(kl:List Nat)(f:FuncId):List Ta->Nat->St->ym->Prop
 |[],_,_,_=>False
 |o::r,k,st,q=>NB cf pf kl f o k st q fun k st'=>Bn cf pf kl f r k st' q
def Bi(cf:Callee)(pf:Di)(kl:List Nat)(n:Nat):ka->Rt->St->ym->Prop
 | .kb _ [] c,.op f k,st,q=>Bn cf pf kl f c k st q
 | .seq a _,.l r,st,q=>Bi cf pf kl n a r st q
 | .seq a b,.r r,st,q=>match oa cf n a st with
   |some (.normal,st')=>Bi cf pf kl n b r st' q
   |_=>False
 |_,_,_,_=>False
def OB(code:FuncId->Option na)(cf:Callee)(n0:Nat)(pf:Di):Di:=fun f args bx oc q=>∃c,code f=some c/\args.length<=c.nt/\∃b a,Bi cf pf [] n0 c.body b {sl:=Bh 0 args,ow:=oc,al:=[],bx} a/\q.1=a.1/\q.2.1=trim bx.length [] a.2.2.1/\∀L∈q.2.2,L∈Th (trim bx.length [] a.2.2.1).length a.2.2.2
section
variable {P:Program} {w w':World} {r:Option Nat} {Fr Fr':Nat→Nat} {β β':List Nat} {T:List Deferred} {base nt:Nat} {M:Nat→Prop} {w0:World} {F0:Nat→Nat} {st st':St} {a a':Act} {cf:Callee} {pf:Di} {Γ:ue} {S:S0}
theorem QS(sl):∀(kl:List Nat)(i),look (kl.zip (kl.map (look sl))) i=.Ad\/look (kl.zip (kl.map (look sl))) i=look sl i
 |[],i=>.inl rfl
 |j::kl,i=>by
  simp only[Xb,List.zip_cons_cons,me];by_cases h:j=i
  ·grind
  ·rw[if_neg h];exact QS sl kl i
def Rl.oU{kl}{q}{st}{a}{w}(c:q.2.1=kl.map (look st.sl))(d:q.2.2=(st.bx,st.ow.filter Ba))(h:Rl P S st a w):Rl P S (pk kl q) a w:=by
 obtain⟨Fr,β,R,b⟩:=h;refine⟨Fr,β,R.Mm (fun i=>?_) (by grind [pk]) (fun L e=>?_) rfl,b⟩
 ·grind [pk,QS]
 grind [Ba,pk]
def zbC(j:vm P Γ pf){f}{args}{kl}{q}(h:Lo pf kl st f args q){vs}
 (R:Rel P S.T S.base S.M S.w0 S.F0 S.nt st a w Fr β) (r:Le S.sw S.sF S.sβ w Fr β) (b:ra w Fr β args vs) (i:Γ.G w) (o:∀g,Γ.D g->g<S.base/\¬S.M g):
 Enters P f vs w fun e w'=>e=.panicked (entry q.1)/\Rl P S (pk kl q) a w':=by
 obtain⟨l,h⟩:=h;split at h
 ·rename_i n
  obtain⟨⟨bx,oc,h⟩,v⟩:=h;refine(j f args [] [] _ h w Fr [] vs ⟨i,Tp args vs n b,IA w Fr,(fun L h=>by cases h),fun g _=>Tl⟩).mono fun e w' h=>?_
  obtain⟨rfl,Fr',β',Q⟩:=h;have u:Below w.heap.size w w':=⟨Q.rel.os,Q.rel.tape,Q.rel.output,Q.rel.ge,fun k l=>(Q.rel.old k l Tl).1⟩;obtain⟨t,c⟩:=R.grow u (fun g i=>(Q.rel.old g i Tl).2);exact⟨rfl,Rl.oU l v ⟨Fr',β,t,r.trans c⟩⟩
 ·have c:∀L,L∈st.ow.filter Ba->L∈st.ow/\Ba L=true:=fun L h=>by grind
  have t:∀g,ud w β (st.ow.filter Ba) g->S.base<=g\/S.M g:=fun g i=>R.may g (i.imp id fun⟨L,u,v,y,x⟩=>⟨L,(c L u).1,v,by grind [xi],x⟩)
  refine(j f args st.bx (st.ow.filter Ba) _ h w Fr β vs ⟨i,b,R.boxes,fun L h=>(c L h).2,fun g z A=>?_⟩).mono fun e w' h=>?_
  ·grind
  obtain⟨rfl,Fr',β',Q⟩:=h;refine⟨rfl,?_⟩;have n:q.2.2.2.filter Ba=q.2.2.2:=fx.2 Q.cells;have:=kD (S:=S) (dst:=none) (f:=f) (args:=args) Q (st':={st with bx:=q.2.2.1,ow:=q.2.2.2.filter Ba++st.ow.filter (fun L=>!Ba L),al:=st.al.filter fun p=>!Ba p.2}) pa (fun d h=>by cases h) R r (K:=fun a' w'=>Rl P S (pk kl q) a' w') (fun a' w' hr=>by
   refine Rl.oU (st:={st with bx:=q.2.2.1,ow:=q.2.2.2.filter Ba++st.ow.filter (fun L=>!Ba L),al:=st.al.filter fun p=>!Ba p.2}) l ?_ hr
   grind [List.filter_eq_nil_iff])
  exact this
def mW{o}{ali}{c}(b:In P ali o=some c){f}{args}(ht:pc st c=some (f,args)):Hn P o.op=some c:=by
 have e:∀c,(∃f xs,c=Ea.call f xs)->zj c=false:=fun c h=>by obtain⟨f,xs,rfl⟩:=h;rfl
 have g:∃f xs,c=Ea.call f xs:=by
  unfold pc at ht;split at ht
  ·simp
  ·cases ht
 unfold In at b;split at b
 ·grind [wy,Option.map_eq_some_iff]
 ·split at b
  ·rename_i c' a
   cases b;rcases AD a with⟨x,d⟩|⟨x,d⟩|d
   ·rw[d]at a
    obtain⟨y,_,rfl⟩:=qm a
    grind
   ·rw[d]at a
    obtain⟨y,_,rfl⟩:=qm a
    grind
   grind
  ·split at b
   ·rename_i c' a
    cases b;exfalso;unfold Nq at a;split at a<;>grind [Option.map_eq_some_iff,Option.bind_eq_some_iff]
   ·split at b
    ·grind
    ·cases b;obtain⟨_,_,h⟩:=g;cases h
theorem za8(y:vm P Γ pf)(z:Good Γ S){o}{ali}{c}(u:In P ali o=some c){f}{args}(ht:pc st c=some (f,args)){kl}{q}(h:Lo pf kl st f args q)(x:f≠hb)(hr:Rl P S st a w){K}{Q}
 (E:∀a' w',Rl P S (pk kl q) a' w'->Q (.panic (entry q.1)) a' w'):o.wpIn (fw r) 0 P a w K Q:=by
 have i:=mW u ht;obtain⟨Fr,β,R,D⟩:=hr;obtain⟨dst,op,ty,n,j,guard⟩:=o;have fin:∀(vs:List Value),ra w Fr β args vs->(execOp a.eval ⟨dst,op,ty,n,j,guard⟩).run P w=(callFunc f vs.toArray).run P w->Oper.wpIn (fw r) 0 P ⟨dst,op,ty,n,j,guard⟩ a w K Q:=fun vs A B=>by
  have l:=zbC y h R D A (z.at R) z.Fi;unfold Enters at l;rw[if_neg x]at l;obtain⟨C,k⟩:=l;have p:(execOp a.eval ⟨dst,op,ty,n,j,guard⟩).run P w=.ok (.enter f vs.toArray) w:=by rw[B,iv C]
  refine⟨fun _ _=>trivial,?_⟩;rw[Oper.semAt_eq _ _ _ fun c u=>by obtain⟨d,v⟩:=Iy u p;cases v];rw[p];refine⟨(fun h=>by cases h),xE.2 (k.mono fun e w' h=>?_)⟩
  grind
 cases op with
 |call cl=>
  obtain⟨callee,k,l⟩:=cl;cases callee with
  |invoke r m=>
   obtain⟨F,v,i⟩:=qb i;obtain⟨xs,C,rfl⟩:=qm i;cases ht
  |builtin b=>cases i
  |value g=>
   cases g with
   |const v=>cases i
   |global g=>cases i
   |func g=>
    simp only[Hn]at i;split at i
    ·cases i
    obtain⟨xs,p,rfl⟩:=qm i;simp only[pc,Pb,Prod.mk.injEq]at ht;obtain⟨rfl,rfl⟩:=ht;refine fin (k.map a.eval).toList (Ks R.sl p) ?_;show(do let d <-resolve a.eval ⟨.value (.func g),k,l⟩ ty;invoke d.target d.args:Sem Next).run P w=_;simp only[resolve,Deferred.ofValue,Act.eval,Fb,qh,Nb,invoke];congr 2;apply ei;simp
   |tmp t=>
    obtain⟨xs,p,rfl⟩:=qm i;cases ht
 |_=>cases i
theorem zgh{c}{ali}{o}(b:In P ali o=some c){f}{args}(ht:pc st c=some (f,args)):f≠hb:=by
 have a:=mW b ht;unfold pc at ht;split at ht
 ·cases ht
  unfold Hn at a;split at a<;>grind [Option.map_eq_some_iff,Option.bind_eq_some_iff]
 ·grind
def zbz{f}{o}{k}{kl}{q}{K}(h:NB cf pf kl f o k st q K):(∃args,fh st o.g=some true/\pc st o.op=some (f,args)/\Lo pf kl st f args q)\/∃k' st',stepG cf st o=some st'/\K k' st':=by
 grind [NB]
def xZ{ops}{ali}{nt}{o}{c}(h:ji P nt ops ali o=some c):In P ali o=some c.op/\Qu ops o.guard=some c.g:=by
 grind [ji,Option.bind_eq_some_iff,Option.map_eq_some_iff]
theorem sV(b:Gb P Γ cf)(e:vm P Γ pf)(i:Good Γ S){ops}{ali}{f}{kl}{q}{Q}{rest}
 (u:∀a' w',Rl P S (pk kl q) a' w'->Q (.panic (entry q.1)) a' w'):∀(l)(n k)(st)(a)(w),
 (∀j c,l[j]?=some c->∃o,ops[k+j]?=some o/\ji P S.nt ops ali o=some c)->Bn cf pf kl f l n st q->Rl P S st a w->wpOpsIn (fw r) 0 P ops Q (List.range' k l.length++rest) a w
 |[],n,k,st,a,w,_,h,hr=>h.elim
 |c::l,n,k,st,a,w,p,h,hr=>by
  obtain⟨o,t,d⟩:=p 0 c rfl;rw[ci]at t;rw[sa,List.range'_succ,Fa];unfold wpOpsIn;simp only[t];obtain⟨z,A⟩:=xZ d;rcases zbz h with⟨args,v,y,C⟩|⟨m,st',hs,x⟩
  ·grind [gz,za8,zgh]
  ·exact eI b i d hs hr fun a' w' g=>sV b e i u l m (k+1) st' a' w' (fun j c' B=>by
    have:=p (j+1) c' la;rwa[Ij,Vr 1 j]) x g
def zdl(v:P.follows .mixedOrders=true)(d:Gb P Γ cf)(h:vm P Γ pf)(u:Good Γ S){id}{ops}{q}(b:xy P S.nt ops false=some q){f}{k}{kl}{x}(p:Bn cf pf kl f q.2 k st x)
 (hr:Rl P S st a w) {Q} (t:∀a' w',Rl P S (pk kl x) a' w'->Q (.panic (entry x.1)) a' w'):(Code.region id ops false).wpIn (fw r) 0 P Q a w:=by
 obtain⟨cs,g,b⟩:=qb b;obtain⟨n,i⟩:=zr g;have e:∀(j:Nat)(c:Ta),cs[j]?=some c->∃o,ops[j]?=some o/\ji P S.nt ops (ops.toList.filterMap Iq) o=some c:=fun j c l=>by
  grind
 simp only[Ha,if_false,Pb]at b;subst b;refine wpIn_region ?_;have:=sV (r:=r) (rest:=[]) d h u (Q:=Q) t cs k 0 st a w (fun j c l=>by rw[Zc];exact e j c l) p hr
 grind [List.range_eq_range']
theorem pU(W:P.follows .mixedOrders=true)(G:Gb P Γ cf)(J:vm P Γ pf)(U:Good Γ S){n}{kl}{qs}{f}(I:∃fn,P.funcs[f]?=some fn/\S.nt=fn.ntmps)(K:∀l,r=some l->∃O,S.sw.heap[l]?=some (Obj.loop O)):
 ∀(code)(u)(lv)(c)(t),Ud P qs f S.nt u lv code=some (c,t)->(∀j q,(Vb code)[j]?=some q->ol P f (u+j)=some q)->∀(e)(st)(x)(a)(w)(Q),
 Bi cf pf kl n c e st x->st.al=[]->Rl P S st a w->(∀a' w',Rl P S (pk kl x) a' w'->Q (.panic (entry x.1)) a' w')->code.wpIn (fw r) 0 P Q a w:=by
 have stop:∀{e:Rt}{st:St}{x:ym},Bi cf pf kl n Tt e st x->False:=fun{e st x} h=>by
  grind [Tt,Bi]
 intro code
 induction code with
 |skip=>
  intro u lv c t d o e st x a w Q i _ hr A;cases d;cases e<;>exact i.elim
 |region id ops E=>
  intro u lv c t d o e st x a w Q i B hr A;cases lv with
  |nil=>grind [Ud]
  |cons l lv=>
   simp only[Ud]at d;split at d
   case h_2=>grind
   rename_i N v;cases d;unfold yD at v;split at v
   ·obtain⟨q,H,rfl⟩:=qm v
    cases e<;>exact i.elim
   split at v
   ·rename_i q H
    cases v;obtain⟨pre,M⟩:=q;cases e with
    |op g k=>
     cases pre with
     |cons p pre=>exact i.elim
     |nil=>
      cases E with
      |false=>exact zdl W G J U H i hr A
      |true=>
       grind [xy,Option.bind_eq_some_iff,zr,Option.map_eq_some_iff,List.length_nil]
    |_=>cases pre<;>exact i.elim
   split at v
   ·obtain⟨q,H,rfl⟩:=qm v
    cases e<;>exact i.elim
   ·cases v
 |seq y z M N=>
  intro u lv c t d o e st x a w Q i B hr A;obtain⟨⟨c1,D⟩,F,d⟩:=qb d;obtain⟨⟨c2,X⟩,R,d⟩:=qm d;cases d;have v:∀j q,(Vb y)[j]?=some q->ol P f (u+j)=some q:=fun j q V=>o j q (by grind [Vb])
  have E:∀j q,(Vb z)[j]?=some q->ol P f (u+(Vb y).length+j)=some q:=fun j q V=>by
   have:=o ((Vb y).length+j) q (by simp only[Vb];rw[Af aa];simpa using V)
   grind
  cases e with
  |l e=>
   refine wpIn_seq (M u lv c1 D F v e st x a w _ i B hr fun a' w' C=>?_);exact A _ _ C
  |r e=>
   simp only[Bi]at i;split at i
   ·rename_i s1 T
    have H:=Tm c1 st _ s1 T B;refine wpIn_seq (Rq W G U I K y u lv c1 D F v st s1 .normal a w _ T B hr fun a' w' C=>?_);exact N _ D c2 X R E e s1 x a' w' Q i H C A
   ·exact i.elim
  |_=>exact i.elim
 |cond y H b1 v E=>
  intro u lv c t d o e st x a w Q i _ hr A;obtain⟨z,Y,d⟩:=qb d;obtain⟨⟨c1,D⟩,F,d⟩:=qb d;obtain⟨⟨c2,X⟩,R,d⟩:=qm d;cases d;cases e<;>exact i.elim
 |block id b L=>
  intro u lv c t d o e st x a w Q i _ hr A;obtain⟨⟨c1,D⟩,F,d⟩:=qm d;cases d;cases e<;>exact i.elim
 |loop b L=>
  intro u lv c t d o e st x a w Q i _ hr A;cases lv with
  |nil=>grind [Ud]
  |cons l lv=>
   obtain⟨⟨c1,D⟩,F,d⟩:=qm d;cases d;cases e<;>exact i.elim
 |exit id=>
  intro u lv c t d o e st x a w Q i _ hr A;cases lv with
  |nil=>grind [Ud]
  |cons l lv=>cases d;cases e<;>exact i.elim
 |ret=>
  intro u lv c t d o e st x a w Q i _ hr A;cases lv with
  |nil=>grind [Ud]
  |cons l lv=>cases d;cases e<;>exact i.elim
 |rangeFunc g ps az b _ _=>
  intro u lv c t d o e st x a w Q i _ hr A;cases lv with
  |nil=>grind [Ud]
  |cons l lv=>
   obtain⟨y,Y,d⟩:=qm d;cases d;cases e<;>exact i.elim
 |scope b L=>
  intro u lv c t d o e st x a w Q i B hr A;exact aX (L u lv c t d o e st x a w _ i B hr fun a' w' C=>⟨A a' w' C,fun l=>by simp⟩)
 |label l=>
  intro u lv c t d o e st x a w Q i _ hr A;cases d;cases e<;>exact i.elim
 |goto l=>grind [Ud]
 |refuse s=>grind [Ud]
end
section
variable {P:Program} {Γ:ue} {cf:Callee}
def zbB(V:P.follows .mixedOrders=true)(Z:P.funcs[hb]?=none){code}(d:∀f c,code f=some c->∃lv,Km P lv f=some c)(y:Gb P Γ cf){n0}{pf}(B:vm P Γ pf):vm P Γ (OB code cf n0 pf):=fun f args bx oc q h=>by
 obtain⟨c,j,o,rtZ,u,z,W⟩:=h;obtain⟨v,qb,qoZ⟩:=q;obtain⟨rfl,rfl,S⟩:=W;obtain⟨lv,a⟩:=d f c j;unfold Km at a;split at a
 case h_2=>cases a
 rename_i fn k;split at a
 case h_2=>cases a
 rename_i body b;split at a
 case isFalse=>cases a
 obtain⟨⟨Q,F⟩,x,a⟩:=qb a;obtain⟨rgZ,X,a⟩:=qb a;obtain⟨rs,Y,rfl⟩:=qm a;intro w Fr β vs p;refine enters_of (by grind [Uj]) (fun e=>by grind) ?_;have T:Good Γ ⟨w.heap.size,ud w β oc,w,Fr,fn.ntmps,w,Fr,β,[]⟩:=⟨p.g,fun g H=>⟨Γ.lt w p.g g H,p.Fi g H⟩⟩;have M:=Hw (nt:=fn.ntmps) p o;refine callsIn_wide.1 (callsIn_of_wp_marks (n:=0) k b trivial ?_);refine pU (r:=none) V y B T (f:=f) ⟨fn,k,rfl⟩ (fun l e=>by cases e) body 0 lv.main Q F x ?_ rtZ _ u _ w _ z rfl ⟨Fr,β,M,Le.refl _ _ _⟩ fun a' w' t=>?_
 ·grind [ol]
 ·have D:=t
  obtain⟨Fr',β',K,U⟩:=D;obtain⟨I,d1Z,G,d3Z⟩:=K.df;show LeavesInM _ _ _ _ _ _ a'.defers _ _;rw[G];refine Uv ea I a' w' G t fun a2Z w2Z E _ _=>?_
  unfold LeavesInM LeavesIn;obtain⟨J,β2Z,N,A⟩:=E;have O:=N.Mm (st':=pk [] (u.1,u.2.1,u.2.2.1,qoZ)) (fun i=>.inl pa) rfl (fun L R=>⟨(Yc.1 (S L R)).1,fun i e=>rfl⟩) rfl;obtain⟨β3Z,C⟩:=zA (vs2:=[]) (v0:=.tuple #[]) (os:=false) (bx:=bx) p.rel.bx.1 O.bare A (by simp[Rc,Rd,ra]) (fun h=>by cases h) rfl rfl
  grind [Th,List.filter_eq_self,pk]
end
structure tm where
 nt:Nat
 ub:List (Sum Nat (Nat × Bool × Nat))
 pre:ka
 d:Nat
 g:FuncId
 Ya:List X
 body:ka
def Is(P:Program)(qs:List FuncId)(c e:List (List Nat))(f:FuncId):Option tm:=match P.funcs[f]? with
 |some fn=>match fn.body with
  |some (.seq a (.seq (.region _ ops false) b))=>(match ops.toList with
   |[⟨some d,.makeFunc (.func g) first Ya,_,_,_,none⟩,⟨none,.defer ⟨.value (.tmp h),args,_⟩,_,_,_,none⟩]=>
    if fn.name != "runtime.NumGoroutine"/\Vb a=[]/\Vb b=[]/\d=h/\first.size=0/\args=#[]/\d<fn.ntmps/\Uj P g=true then
     (bp Ya).bind fun cs=>(Ud P qs f fn.ntmps 0 c a).bind fun p=>(Ud P qs f fn.ntmps 0 e b).bind fun q=>(fn.results.toList.mapM (Lm P)).map fun rs=>⟨fn.ntmps,rs,p.1,d,g,cs,q.1⟩
    else none
   |_=>none)
  |_=>none
 |none=>none
def tm.mid(D:tm)(s:St):St:=s.put D.d (.cb D.g (D.Ya.map (·.ev s.sl)))
def Xs(ub:List (Sum Nat (Nat×Bool×Nat)))(n:Nat)(st:St):Option Ye:=(ub.mapM (Bj st)).map fun vs=>(vs,jo ub st.ow,trim n vs st.bx,Th (trim n vs st.bx).length st.ow)
def tq(cf:Callee)(n:Nat)(D:tm)(args:List PV)(bx:Na)(oc:List Loc)(r:Ye):Prop:=
 args.length<=D.nt/\∃o s1,oa cf n D.pre {sl:=Bh 0 args,ow:=oc,al:=[],bx}=some (o,s1)/\
  match o with
  | .exit _=>False
  | .ret=>Xs D.ub bx.length s1=some r
  | .normal=>∃o st,oa cf n D.body (D.mid s1)=some (o,st)/\(∀i,o≠.exit i)/\Xs D.ub bx.length st=some r
def WJ(cf:Callee)(pf:Di)(n:Nat)(a:Value->List PV->Na->Option Na)(kl:List Nat)(D:tm)(args:List PV)(bx:Na)(oc:List Loc)(r:Ye):Prop:=
 args.length<=D.nt/\∃s1 b q bx',oa cf n D.pre {sl:=Bh 0 args,ow:=oc,al:=[],bx}=some (.normal,s1)/\Bi cf pf kl n D.body b (D.mid s1) q/\
  a q.1 (D.Ya.map (·.ev s1.sl)) q.2.2.1=some bx'/\Xs D.ub bx.length ⟨kl.zip q.2.1,[],[],bx'⟩=some r
def VJ(P:Program)(g n:Nat):Prop:=∀(a:List Value)(w:World),a.length=n->CallsDIn Fence.wide 0 P g a.toArray .returning w fun e b w'=>(∃v,e=.returned v)/\b=.returning/\w'=w
def PJ(P:Program)(g:FuncId)(c:Value->List PV->Na->Option Na):Prop:=∀(v:Value)(Ya:List PV)(st:St)(bx':Na),c v Ya st.bx=some bx'->
 ∀(T:List Deferred)(base:Nat)(M:Nat->Prop)(w0:World)(F0:Nat->Nat)(nt:Nat)(a:Act)(w:World)(Fr:Nat->Nat)(β:List Nat)(b:List Value),Rel P T base M w0 F0 nt st a w Fr β->ra w Fr β Ya b->
  CallsDIn Fence.wide 0 P g b.toArray (.panicking (entry v)) w fun e d w'=>(∃x,e=.returned x)/\settle d=.returning/\∃Fr',Rel P T base M w0 F0 nt ⟨st.sl,[],[],bx'⟩ a w' Fr' β/\Le w Fr β w' Fr' β
section
variable {P:Program} {w w':World} {Fr Fr':Nat→Nat} {β β':List Nat} {T:List Deferred} {base nt:Nat} {M:Nat→Prop} {w0:World} {F0:Nat→Nat} {st st':St} {a a':Act} {cf:Callee} {Γ:ue} {S:S0}
def zq(st:St)(a:Act)(w:World)(β:List Nat)(g:Nat):Prop:=g∈β\/∃L∈st.ow,∃v,Ga a w β L=some v/\v.ownBlock=some g
def Rel.WU(R:Rel P T base M w0 F0 nt st a w Fr β)(c):Rel P c w.heap.size (zq st a w β) w Fr nt st {a with defers:=c} w Fr β:=by
 have o:∀L,Ga {a with defers:=c} w β L=Ga a w β L:=fun L=>by rfl
 exact⟨R.sl,R.nt,⟨[],List.nodup_nil,rfl,fun D h=>by cases h⟩,R.bx,R.nd,fun L b=>by exact R.own L b,fun L b i d e v n g=>by exact R.sep L b i d e v n g,fun L b v g=>by exact R.out L b v g,fun q k=>by exact R.al q k,
  fun g j=>.inr (j.imp id fun⟨L,b,v,p,l⟩=>⟨L,b,v,la,l⟩),fun _ _ _=>⟨rfl,rfl⟩,Aa _,rfl,rfl,rfl⟩
def Rel.back{A t}{j}{k}{n}{l}{i}{d}(R:Rel P T base M w0 F0 nt st a w Fr β)(c:Rel P A w.heap.size (zq st a w β) w Fr j k n l i d){o}(B:Marks t base l o):
 Rel P t base M w0 F0 j k {n with defers:=o} l i d:=by
 have G:∀L,Ga {n with defers:=o} l d L=Ga n l d L:=fun L=>by rfl
 exact⟨c.sl,c.nt,B,c.bx,c.nd,fun L e=>by exact c.own L e,fun L e z p r v F g=>by exact c.sep L e z p r v F g,fun L e v g=>by exact c.out L e v g,fun q D=>by exact c.al q D,
  fun g C=>(c.may g (C.imp id fun⟨L,e,v,E,y⟩=>⟨L,e,v,la,y⟩)).elim (fun h=>.inl (Vf R.ge h)) (fun h=>R.may g h),
  fun b x u=>by
   obtain⟨E,y⟩:=c.old b (Ug x R.ge) fun h=>(R.may b h).elim (fun h=>by omega) u
   obtain⟨H,I⟩:=R.old b x u
   grind,
  Vf R.ge c.ge,c.os.trans R.os,c.tape.trans R.tape,c.output.trans R.output⟩
def Rel.marks{x}{i}{j}{y}{r}{d}{k}(R:Rel P T base M w0 F0 nt st a w Fr β)(v:Rel P x w.heap.size (zq st a w β) w Fr i j y r d k):Marks T base r a.defers:=by
 obtain⟨t,B,C,l⟩:=R.df;refine⟨t,B,C,fun D o=>⟨(l D o).1,?_⟩⟩;have b:=(l D o).2;rw[(v.old D (Nh.1 b).1 fun g=>?_).1]
 ·exact b
 ·rcases g with g|⟨L,E,u,F,c⟩
  ·obtain⟨z,h,q⟩:=R.bx.at g
   grind
  ·obtain⟨J,p,h,_,n,cs,_,q⟩:=R.own L E
   rw[F]at h;cases h;rcases q with rfl|⟨G,z,A,e,I,rfl,H,_⟩
   ·cases c
   ·cases c<;>grind
def GP(hmZ:P.follows .mixedOrders=true)(hyn:P.funcs[hb]?=none)(Z:Gb P Γ cf){n}{qs}{I J}{f}{D}(h:Is P qs I J f=some D){args}{bx}{oc}(E:args.length<=D.nt)
 {vs} (O:wm P Γ w Fr β args vs bx oc) {s1} (h1Z:oa cf n D.pre {sl:=Bh 0 args,ow:=oc,al:=[],bx}=some (.normal,s1)) {Q}
 (t:∀(fn)(b)(lv'),Uj P D.g=true->fn.ntmps=D.nt->(∃fn,P.funcs[f]?=some fn/\D.nt=fn.ntmps)->Ud P qs f D.nt 0 J b=some (D.body,lv')->Vb b=[]->fn.results.toList.mapM (Lm P)=some D.ub->∀(M)(L)(q)(z)(i),
   Rel P [] w.heap.size (ud w β oc) w Fr D.nt (D.mid s1) M L q z->Le w Fr β L q z->ra L q z (D.Ya.map (·.ev s1.sl)) i->(D.mid s1).al=[]->
   b.wpIn (fw none) 0 P (bodyPostM Fence.wide 0 P fn Q) {M with defers:={target:=.fn (.func D.g) i.toArray,args:=#[]}::M.defers} L):Enters P f vs w Q:=by
 unfold Is at h;split at h
 case h_2=>cases h
 rename_i fn v;split at h
 case h_2=>cases h
 rename_i a id ops b Y;split at h
 case h_2=>cases h
 rename_i d g first Ya ty1 K U d'Z V j y p A F
 split at h
 case isFalse=>cases h
 rename_i u;obtain⟨hname,hra,hrb,rfl,k,rfl,hdn,C⟩:=u;obtain⟨cs,hcs,h⟩:=qb h;obtain⟨⟨pcZ,lva⟩,hpc,h⟩:=qb h;obtain⟨⟨bcZ,lvb⟩,X,h⟩:=qb h;obtain⟨rs,hrs,rfl⟩:=qm h;refine enters_of (by grind [Uj]) (fun e=>by grind) ?_;have hSZ:Good Γ ⟨w.heap.size,ud w β oc,w,Fr,fn.ntmps,w,Fr,β,[]⟩:=⟨O.g,fun g hgZ=>⟨Γ.lt w O.g g hgZ,O.Fi g hgZ⟩⟩;have R0Z:=Hw (nt:=fn.ntmps) O E;refine callsIn_wide.1 (callsIn_of_wp_marks (n:=0) v Y trivial ?_);refine wpIn_seq (Rq (r:=none) hmZ Z hSZ (f:=f) ⟨fn,v,rfl⟩ (fun l e=>by cases e) a 0 I pcZ lva hpc (by rw[hra];simp) _ s1 .normal _ w _ h1Z rfl ⟨Fr,β,R0Z,Le.refl _ _ _⟩ fun M L hr1=>?_);have B:=Tm pcZ _ _ s1 h1Z rfl;have x:ops=#[⟨some d,.makeFunc (.func g) first Ya,ty1,K,U,none⟩,⟨none,.defer ⟨.value (.tmp d),#[],j⟩,y,p,A,none⟩]:=by
  apply ei;exact F
 subst x;refine wpIn_seq (wpIn_region ?_);have H:ag P (.makeFunc (.func g) first Ya)=some (.clos g cs):=by
  simp only[ag,k,if_true,hcs,jd]
 refine EV (cf:=cf) (S:=⟨w.heap.size,ud w β oc,w,Fr,fn.ntmps,w,Fr,β,[]⟩) (st':=s1.put d (.cb g (cs.map (·.ev s1.sl)))) (c:=.clos g cs) H rfl (fun d'Z e=>by grind) hr1 fun N R hr2=>?_
 unfold wpOpsIn;simp only[List.getElem?_toArray,Bo,yk,Region.wanted,if_true];obtain⟨T,β2Z,R2Z,hl2⟩:=hr2;have o:=R2Z.sl d;have W:look (s1.put d (.cb g (cs.map (·.ev s1.sl)))).sl d=.cb g (cs.map (·.ev s1.sl)):=by simp[St.put,me]
 rw[W]at o;obtain⟨i,hcv,hcr⟩:=o;refine⟨fun _ _=>trivial,?_⟩;have G:((Oper.semAt Fence.wide.round N.eval ⟨none,.defer ⟨.value (.tmp d),#[],j⟩,y,p,A,none⟩).run P R)=.ok (.defer {target:=.fn (.func g) i.toArray,args:=#[]}) R:=by
  rw[show Fence.wide.round=none from rfl,Oper.semAt_none];show(do let ddZ <-resolve N.eval ⟨.value (.tmp d),#[],j⟩ y;pure (Next.defer ddZ):Sem Next).run P R=_;have:N.eval (.tmp d)=.func (.func g) #[] i.toArray:=hcv;simp only[resolve,this,Deferred.ofValue,Fb,qh,Nb];simp
 rw[G];exact t fn b lvb C rfl ⟨fn,v,rfl⟩ X hrb hrs N R T β2Z i R2Z hl2 hcr (by simp[tm.mid,St.put,B,Lb])
def FP{args}{vs}{bx}{oc}(A:wm P Γ w Fr β args vs bx oc){fn}{ub}(q:fn.results.toList.mapM (Lm P)=some ub){i}{h}{g}{a}{b}
 (t:Rel P [] w.heap.size (ud w β oc) w Fr fn.ntmps i h g a b) (n:Le w Fr β g a b) {y} {j} {l} {k} {c} {d} (u:Rel P y g.heap.size (zq i h g b) g a fn.ntmps j l k c d) (o:Le g a b k c d)
 {r} (z:Xs ub bx.length j=some r):LeavesInM Fence.wide 0 P fn l.tmps (fun e w'=>∃v Fr' β',e=.returned v/\Ci P w Fr β oc r.1 r.2.1 r.2.2.1 r.2.2.2 v w' Fr' β') h.defers .returning k:=by
 have x:=t.back u (t.marks u);exact Rz (S:=⟨w.heap.size,ud w β oc,w,Fr,fn.ntmps,w,Fr,β,[]⟩) rfl h.defers {l with defers:=h.defers} k rfl ⟨c,d,x,n.trans o⟩ fun a3 B p _=>Xy q A.rel.bx.1 z a3 B p
def fR(c:Good Γ S)(R:Rel P S.T S.base S.M S.w0 S.F0 S.nt st a w Fr β):∀g,Γ.D g->g<w.heap.size/\¬zq st a w β g:=fun g d=>by
 obtain⟨b,e⟩:=c.Fi g d;refine⟨Ug b R.ge,fun h=>?_⟩;rcases R.may g h with h|h<;>grind
theorem N3(T:P.follows .mixedOrders=true)(W:P.funcs[hb]?=none)(u:Gb P Γ cf){n}{qs}{J K}{f}{D}(c:Is P qs J K f=some D)(G:VJ P D.g D.Ya.length){args}{bx}{oc}{r}(h:tq cf n D args bx oc r)
 {vs} (j:wm P Γ w Fr β args vs bx oc):Enters P f vs w fun e w'=>∃v Fr' β',e=.returned v/\Ci P w Fr β oc r.1 r.2.1 r.2.2.1 r.2.2.2 v w' Fr' β':=by
 obtain⟨q,o,s1,h1Z,h2Z⟩:=h;cases o with
 |exit i=>grind
 |ret=>
  unfold Is at c;split at c
  case h_2=>cases c
  rename_i fn k;split at c
  case h_2=>cases c
  rename_i a id ops b d;split at c
  case h_2=>cases c
  split at c
  case isFalse=>cases c
  obtain⟨cs,I,c⟩:=qb c;obtain⟨⟨O,F⟩,t,c⟩:=qb c;obtain⟨⟨Q,L⟩,C,c⟩:=qb c;obtain⟨rs,x,rfl⟩:=qm c;refine enters_of (by grind [Uj]) (fun e=>by grind) ?_;have M:Good Γ ⟨w.heap.size,ud w β oc,w,Fr,fn.ntmps,w,Fr,β,[]⟩:=⟨j.g,fun g E=>⟨Γ.lt w j.g g E,j.Fi g E⟩⟩;have H:=Hw (nt:=fn.ntmps) j q;refine callsIn_wide.1 (callsIn_of_wp_marks (n:=0) k d trivial ?_);refine wpIn_seq (Rq (r:=none) T u M (f:=f) ⟨fn,k,rfl⟩ (fun l e=>by cases e) a 0 J O F t la _ s1 .ret _ w _ h1Z rfl ⟨Fr,β,H,Le.refl _ _ _⟩ fun A y z=>?_);exact Rz rfl _ A y rfl z fun B N p _=>Xy x j.rel.bx.1 h2Z B N p
 |normal=>
  obtain⟨o,Y,h3Z,hno,hfZ⟩:=h2Z;refine GP T W u c q j h1Z fun fn b X hent H k C hrb x A y t z d L S R Q=>?_
  have M:Good Γ ⟨w.heap.size,ud w β oc,w,Fr,D.nt,w,Fr,β,[]⟩:=⟨j.g,fun g E=>⟨Γ.lt w j.g g E,j.Fi g E⟩⟩;have O:Good Γ ⟨y.heap.size,zq (D.mid s1) A y z,y,t,D.nt,y,t,z,{target:=.fn (.func D.g) d.toArray,args:=#[]}::A.defers⟩:=⟨M.at L,fR M L⟩;have RbZ:=L.WU ({target:=.fn (.func D.g) d.toArray,args:=#[]}::A.defers);refine Rq (r:=none) T u O (f:=f) k (fun l e=>by cases e) b 0 K D.body X C la _ Y o _ y _ h3Z Q ⟨t,z,RbZ,Le.refl _ _ _⟩ fun B N p=>?_
  have I:LeavesInM Fence.wide 0 P fn B.tmps (fun e w'=>∃v Fr' β',e=.returned v/\Ci P w Fr β oc r.1 r.2.1 r.2.2.1 r.2.2.2 v w' Fr' β') B.defers .returning N:=by
   have U:=p;obtain⟨Fr2,β2Z,R2Z,hl2⟩:=U;obtain⟨DsZ,d1Z,d2Z,d3Z⟩:=R2Z.df;rw[d2Z];refine Uv ea DsZ B N d2Z p fun a3 w3Z V ht _=>?_
   obtain⟨Fr3,β3Z,Z,F⟩:=V;dsimp only at Z F;unfold LeavesInM;refine⟨ea,.inr ⟨(fun h=>by cases h),.func D.g,d.toArray,D.g,d.toArray,rfl,?_,fun _ _=>trivial,?_⟩⟩
   ·grind [iv,invoke]
   ·refine(G d w3Z (by have:=R.length;simpa using this)).mono ?_
    rintro e u'Z w' ⟨⟨v,rfl⟩,rfl,rfl⟩;rw[<-ht];exact FP (fn:=fn) j x (by rw[H];exact L) S (by rw[H];exact Z) F hfZ
  cases o with
  |exit i=>grind
  |normal=>exact I
  |ret=>exact I
def zby(hmZ:P.follows .mixedOrders=true)(Q:P.funcs[hb]?=none)(j:Gb P Γ cf){pf}(L:vm P Γ pf){n}{qs}{S y}{f}{D}(hDZ:Is P qs S y f=some D){W}(c:PJ P D.g W){kl}
 {args} {bx} {oc} {r} (h:WJ cf pf n W kl D args bx oc r) {vs} (t:wm P Γ w Fr β args vs bx oc):Enters P f vs w fun e w'=>∃v Fr' β',e=.returned v/\Ci P w Fr β oc r.1 r.2.1 r.2.2.1 r.2.2.2 v w' Fr' β':=by
 obtain⟨o,s1,rtZ,q,bx',h1Z,h2Z,h3Z,hfZ⟩:=h;refine GP hmZ Q j hDZ o t h1Z fun fn b R Y p I G hrb O C z d i a A J H F=>?_
 have X:Good Γ ⟨w.heap.size,ud w β oc,w,Fr,D.nt,w,Fr,β,[]⟩:=⟨t.g,fun g Z=>⟨Γ.lt w t.g g Z,t.Fi g Z⟩⟩;have E:Good Γ ⟨z.heap.size,zq (D.mid s1) C z i,z,d,D.nt,z,d,i,{target:=.fn (.func D.g) a.toArray,args:=#[]}::C.defers⟩:=⟨X.at A,fR X A⟩;have RbZ:=A.WU ({target:=.fn (.func D.g) a.toArray,args:=#[]}::C.defers);refine pU (r:=none) hmZ j L E (f:=f) I (fun l e=>by cases e) b 0 y D.body R G la rtZ _ q _ z _ h2Z F ⟨d,i,RbZ,Le.refl _ _ _⟩ fun U w2Z u=>?_
 show LeavesInM _ _ _ _ _ _ U.defers _ _;have M:=u;obtain⟨Fr2,β2Z,R2Z,hl2⟩:=M;obtain⟨DsZ,d1Z,V,d3Z⟩:=R2Z.df;rw[V];refine Uv ea DsZ U w2Z V u fun a3 w3Z N ht _=>?_
 obtain⟨B,T,R3Z,k⟩:=N;refine⟨ea,.inr ⟨(fun h=>by cases h),.func D.g,a.toArray,D.g,a.toArray,rfl,?_,fun _ _=>trivial,?_⟩⟩
 ·grind [iv,invoke]
 ·refine(c q.1 (D.Ya.map (·.ev s1.sl)) (pk kl q) bx' h3Z _ _ _ _ _ _ a3 w3Z B T a R3Z (ra.mono k _ _ H)).mono ?_
  rintro e u'Z w' ⟨⟨v,rfl⟩,x,Fr4,R4Z,K⟩;dsimp only;rw[x,<-ht];exact FP (fn:=fn) t O (by rw[p];exact A) J (by rw[p];exact R4Z) (k.trans K) hfZ
end
section
variable {cf:Callee} {pf:Di} {kl:List Nat} {n k:Nat} {st st':St} {f:FuncId} {q:ym} {sl:List (Nat × PV)} {ow:List Loc} {al:List (Nat × Loc)} {bx:Na}
theorem zgz{args}:pc st (.call f args)=some (f,Il st.sl args):=by grind [pc,Yq]
theorem zgQ{x}:pc st (.mv x)=none:=rfl
theorem zgR{s}:pc st (.mvA s)=none:=rfl
theorem zgt{x}:pc st (.asg x)=none:=rfl
theorem zgV{c a b}:pc st (.pick c a b)=none:=rfl
theorem zgw{op}{x y}:pc st (.bin op x y)=none:=rfl
theorem zgv{a}{x y}:pc st (.beq a x y)=none:=rfl
theorem zgC{a}{ks}{x y}:pc st (.Qm a ks x y)=none:=rfl
theorem zgS{x}:pc st (.Rp x)=none:=rfl
theorem zgT{x}:pc st (.Wl x)=none:=rfl
theorem zg0{op}{x}:pc st (.un op x)=none:=rfl
theorem zgB{t}{x}:pc st (.conv t x)=none:=rfl
theorem zgu{x}:pc st (.b2s x)=none:=rfl
theorem zgq{e}{zs}:pc st (.alloc e zs)=none:=rfl
theorem zgx{e m}{x}:pc st (.box e m x)=none:=rfl
theorem zgy{zs}{ps}:pc st (.build zs ps)=none:=rfl
theorem zgO{b}{l s}{zs}{ps}:pc st (.mksl b l s zs ps)=none:=rfl
theorem zgL{a}{m}{x}:pc st (.load a m x)=none:=rfl
theorem zgM{x}:pc st (.loadA x)=none:=rfl
theorem zgN{x}:pc st (.loadM x)=none:=rfl
theorem zgZ{m}{a x}:pc st (.store m a x)=none:=rfl
theorem zgE{o}{a}:pc st (.Vm o a)=none:=rfl
theorem zgF{a}{o m}{x}:pc st (.Wm a o m x)=none:=rfl
theorem zgG{s}{x i}:pc st (.Ji s x i)=none:=rfl
theorem zgH{x i}:pc st (.idx x i)=none:=rfl
theorem zgI{a}{l s}{x i}:pc st (.Yj a l s x i)=none:=rfl
theorem zgU{l s}{x i}:pc st (.jn l s x i)=none:=rfl
theorem zgX{l s}{x}{b a}:pc st (.sliceP l s x b a)=none:=rfl
theorem zgs{x y}:pc st (.appendS x y)=none:=rfl
theorem zgW{s}{x}{b a}:pc st (.slice s x b a)=none:=rfl
theorem zgY{x}{b a}:pc st (.sliceS x b a)=none:=rfl
theorem zgD{x}{i}:pc st (.ext x i)=none:=rfl
theorem zgJ{x}:pc st (.len x)=none:=rfl
theorem zgK{x}:pc st (.Vn x)=none:=rfl
theorem zgr{b}{s}{x y}:pc st (.append b s x y)=none:=rfl
theorem zgP{b}{x y}:pc st (.mm b x y)=none:=rfl
theorem zgA{Ya}:pc st (.clos f Ya)=none:=rfl
def xu(cf:Callee)(pf:Di)(kl:List Nat)(f:FuncId)(r:List Ta)(k:Nat)(q:ym):Option St->Prop
 |some s=>Bn cf pf kl f r k s q
 |none=>False
theorem zit{r}:xu cf pf kl f r k q (some st)=Bn cf pf kl f r k st q:=rfl
def NJ(cf:Callee)(pf:Di)(kl:List Nat)(f:FuncId)(r:List Ta)(k:Nat)(st:St)(q:ym)(d:Option Nat)(op:Ea):Option (FuncId×List PV)->Prop
 |some (g,args)=>if g=f then(match k with|0=>Lo pf kl st f args q|k+1=>xu cf pf kl f r k q (ma cf st d op))else xu cf pf kl f r k q (ma cf st d op)
 |none=>xu cf pf kl f r k q (ma cf st d op)
theorem zis{r}{d}{op}:NJ cf pf kl f r k st q d op none=xu cf pf kl f r k q (ma cf st d op):=rfl
theorem zir{r}{d}{op}{g}{args}:NJ cf pf kl f r 0 st q d op (some (g,args))=if g=f then Lo pf kl st f args q else xu cf pf kl f r 0 q (ma cf st d op):=rfl
theorem ziy:Bn cf pf kl f [] k st q=False:=rfl
theorem ziw{r}{d}{op}:Bn cf pf kl f (⟨d,none,op⟩::r) k st q=NJ cf pf kl f r k st q d op (pc st op):=by
 rfl
theorem JW:∀l,Xi (Ql sl l)=l.map (look sl)
 |[]=>rfl
 |i::l=>by rw[hH,uJ,JW l];rfl
theorem ziv{args}{v}{a}{b}{o}:Lo pf kl ⟨sl,ow,al,bx⟩ f args (v,a,b,o)=(a=Xi (Ql sl kl)/\if Eb args=true then(∃c p,pf f args [] [] (v,c,p))/\b=bx/\o=Rf ow else pf f args bx (Rf ow) (v,b,o)):=by
 grind [Lo,Hs,JW]
theorem ziz{live}{a}:Bi cf pf kl n (.kb live [] a) (.op f k) st q=Bn cf pf kl f a k st q:=rfl
theorem zix{a b}{r}:Bi cf pf kl n (.seq a b) (.l r) st q=Bi cf pf kl n a r st q:=pa
def fX(cf:Callee)(pf:Di)(kl:List Nat)(n:Nat)(b:ka)(r:Rt)(q:ym):Option (Out×St)->Prop
 |some (.normal,s)=>Bi cf pf kl n b r s q
 |_=>False
theorem ziu{b}{r}:fX cf pf kl n b r q (some (.normal,st))=Bi cf pf kl n b r st q:=rfl
theorem ziA{a b}{r}:Bi cf pf kl n (.seq a b) (.r r) st q=fX cf pf kl n b r q (oa cf n a st):=by
 rfl
variable {code:FuncId→Option na} {n0:Nat}
def zbA{f}{c}(g:code f=some c){args}{bx}{oc}(i:args.length<=c.nt)(d){v}{b1 a}{o1 b}(h:Bi cf pf [] n0 c.body d {sl:=Bh 0 args,ow:=oc,al:=[],bx:=bx} (v,[],b1,o1))
 (e:trim bx.length [] b1=a) (j:∀L∈b,L∈sc a.length o1):OB code cf n0 pf f args bx oc (v,a,b):=by
 subst e;exact⟨c,g,i,d,_,h,rfl,rfl,fun L k=>by grind [Yt]⟩
end
variable {lib:Callee}
def aT(c:UInt8):Bool:=(decide (65<=c.toNat)&&decide (c.toNat<=90))||((decide (97<=c.toNat)&&decide (c.toNat<=122))||((decide (48<=c.toNat)&&decide (c.toNat<=57))||decide (c.toNat=45)))
def S_(c):aT c=bo c:=by
 have:=Qj (p:=fun n=>((decide (65<=n)&&decide (n<=90))||((decide (97<=n)&&decide (n<=122))||((decide (48<=n)&&decide (n<=57))||decide (n=45))))==(!((decide ((n|||32)<97)||decide (122<(n|||32)))&&((decide (n<48)||decide (57<n))&& !decide (n=45))))) Hb c;exact eq_of_beq this
def T_(s)(hs:s.length<=1000000000):da code lib 53 [.flat (.string (S s))] [] []=some ([.flat (.bool (Hf s))],false,[],[]):=by
 refine ja x0 (qa rfl) ?_
 have a:=fk (body:=oa (da code lib) ia uC) (live:=[0,3]) (nb:=0) (fun(_:Unit) k=>⟨[(0,.flat (.string (S s))),(3,.flat (.int .i64 (k:Nat)))],[],[],[]⟩) s (fun _ _=>True)
  (fun _ k x=>if bo x then .inl ()else .inr (.ret,⟨[(2,.flat (.bool false))],[],[],[]⟩)) (fun _=>(.exit 0,⟨[],[],[],[]⟩)) (fun _ k c _ e b d=>?_) (fun _ _=>by simp only[go_sem,simprocAttr]) (fun _ _ _ _ _ _ _ _=>trivial) (fun _ _ x r h=>by split at h<;>simp at h;rw[<-h];simp) (fun _ _=>?_) (fun _=>by simp) () trivial Im
 ·rw[oB]at a
  simp only[n0]at a;by_cases j:s.length<1
  ·have d:s=[]:=qz aa
   subst d;have g:(0:Int)<1:=aa
   exact ye @Ca.{0} @Hf.eq_1 @Int.ofNat_zero
  ·have g:¬(s.length:Int)<1:=aa
   have d:¬s=[]:=fun h=>by grind
   by_cases l:32<s.length
   ·have i:(32:Int)<s.length:=aa
    have b:¬s.length<=32:=aa
    exact Kb @Hf.eq_1 @fi
   ·have i:¬(32:Int)<s.length:=aa
    have b:s.length<=32:=aa
    cases e:s.all bo with
    |true=>
     simp only[e,if_true]at a;exact ua @Hf.eq_1
    |false=>
     simp only[e,Ha,if_false]at a;exact ua @Hf.eq_1
 ·have c1:(k:Int)<s.length:=aa
  have c2:(0:Int)<=(k:Nat):=aa
  have v:IntKind.i64.wrap ((k:Int)+1)=((k+1:Nat):Int):=wrap64 aa;rw[<-S_];unfold aT;obtain⟨n,l⟩:∃n,c.toNat=n:=⟨_,rfl⟩;rw[l];have g:((65:Int)<=((n:Nat):Int))=(65<=n):=by apply propext;omega
  have i:(((n:Nat):Int)<=(90:Int))=(n<=90):=by apply propext;omega
  have o:((97:Int)<=((n:Nat):Int))=(97<=n):=by apply propext;omega
  have p:(((n:Nat):Int)<=(122:Int))=(n<=122):=by apply propext;omega
  have q:((48:Int)<=((n:Nat):Int))=(48<=n):=by apply propext;omega
  have t:(((n:Nat):Int)<=(57:Int))=(n<=57):=by apply propext;omega
  have u:(((n:Nat):Int)=(45:Int))=(n=45):=by apply propext;omega
  rcases mb (65<=n)with b|b
  all_goals first|(exfalso;omega)|skip
  all_goals rcases mb (n<=90)with a2|a2
  all_goals first|(exfalso;omega)|skip
  all_goals rcases mb (97<=n)with a3|a3
  all_goals first|(exfalso;omega)|skip
  all_goals rcases mb (n<=122)with a4|a4
  all_goals first|(exfalso;omega)|skip
  all_goals rcases mb (48<=n)with a5|a5
  all_goals first|(exfalso;omega)|skip
  all_goals rcases mb (n<=57)with d|d
  all_goals first|(exfalso;omega)|skip
  all_goals rcases mb (n=45)with e|e
  all_goals first|(exfalso;omega)|skip
  all_goals
   first|have e1:=eq_false b|have e1:=eq_true b
   first|have e2:=eq_false a2|have e2:=eq_true a2
   first|have e3:=eq_false a3|have e3:=eq_true a3
   first|have e4:=eq_false a4|have e4:=eq_true a4
   first|have e5:=eq_false a5|have e5:=eq_true a5
   first|have e6:=eq_false d|have e6:=eq_true d
   first|have j:=eq_false e|have j:=eq_true e
   clear b a2 a3 a4 a5 d e
  all_goals exact ua WT
 ·have c1:¬(s.length:Int)<s.length:=aa
  exact ua WT
def Oo{β:Type}(p:Nat->β->Bool):Nat->List β->Bool
 |_,[]=>true
 |k,x::t=>p k x&&Oo p (k+1) t
theorem MW{β}{p:Nat->β->Bool}{r}{fin}:∀(L)(k),Ve (fun(_:Unit) k x=>if p k x then .inl ()else .inr r) fin () k L=if Oo p k L then fin ()else r
 |[],k=>rfl
 |x::t,k=>by
  rw[Ve,Oo];cases a:p k x with
  |true=>rw[if_pos rfl,pd];exact MW t _
  |false=>rfl
def okB(s:ba)(k:Nat)(c:UInt8):Bool:=!(decide (c.toNat<32)||(decide (126<c.toNat)||Ub s [61,63] k))
def jk(long:Nat)(w:ba):Bool:=!(decide (long+w.length<1)||decide (60<long+w.length))
def iP(c)(s):∃p ps,db c s=p::ps:=by
 cases s with
 |nil=>exact⟨_,_,rfl⟩
 |cons x l=>
  simp only[db];split
  ·simp
  ·split<;>exact⟨_,_,rfl⟩
theorem BE(s):∀(t)(k long),long<=60->(match Jg s k long t with|none=>false|some n=>decide (0<n))=(Oo (okB s) k t&&(match db 32 t with|p::ps=>jk long p&&ps.all (jk 0)|[]=>false))
 |[],k,long,r=>by
  simp only[Jg,Oo,db,jk,Ca,List.all_nil,vk,pd,ci];by_cases h:0<long<;>grind
 |c::t,k,long,r=>by
  obtain⟨p,ps,e⟩:=iP 32 t;rw[Jg,Oo];obtain⟨ok,g⟩:∃b,okB s k c=b:=⟨_,rfl⟩;have l:mn s k c long=((decide (c.toNat=32)&&decide (long=0))|| !ok):=by
   rw[<-g];unfold mn okB;rw[Bool.not_not]
  rw[l,g];cases ok with
  |false=>simp
  |true=>
   simp only[nm,vn,pd];by_cases a:c.toNat=32
   ·have i:c=32:=Yb.1 a
    have q:=BE s t (k+1) 0 aa;have j:Eh c long=0:=by simp only[Eh,a,if_true]
    rw[j,db,if_pos i];by_cases u:long=0
    ·grind [jk]
    ·have d:¬60<long+0:=aa
     have o:¬long+0<1:=aa
     simp only[a,u,decide_true,decide_false,fi,Wg,Ha,if_false,Nat.not_lt_zero];rw[q,e];simp only[jk,Ca,d,o,Ck,decide_false,vn,pn,pd,Zc]
   ·have i:¬c=32:=fun h=>a dh
    have j:Eh c long=long+1:=by simp only[Eh,a,if_false]
    rw[j,db,if_neg i,e];simp only[a,decide_false,De,Wg];by_cases d:60<long+1
    ·grind [jk]
    ·have q:=BE s t (k+1) (long+1) aa
     simp only[d,decide_false,Ha,if_false];rw[q,e];have e1:jk long (c::p)=jk (long+1) p:=by unfold jk;rw[sa,show long+(p.length+1)=long+1+p.length from by omega]
     grind
def Gt(s:ba):Bool:=decide (s=[])||((db 32 s).all (jk 0)&&Oo (okB s) 0 s)
def zcw(s):Gt s=Ni s:=by
 unfold Gt Ni;have h:=BE s s 0 0 aa;obtain⟨p,ps,a⟩:=iP 32 s
 grind
def zcx(s)(hs:s.length<=1000000000):da code lib 128 [.flat (.string (S s))] [] []=some ([.flat (.bool (Ni s))],false,[],[]):=by
 refine ja y0 (qa rfl) ?_;rw[<-zcw];have z:(⟨#[]⟩:ByteArray)=S []:=rfl;by_cases q:s=[]
 ·have j:=eq_true q
  exact ua @Gt.eq_1
 have j:=eq_false q;have hcut:=hP (lib:=lib) s 32 hs;have l:((32:UInt8).toNat:Int)=32:=rfl;rw[l]at hcut;have o:=av 32 s;obtain⟨L,w⟩:∃L,db 32 s=L:=⟨_,rfl⟩;rw[w]at hcut o
 have b:=fk (body:=oa (da code lib) ia vC) (live:=[0,3,4]) (nb:=0) (fun(_:Unit) k=>⟨[(0,.flat (.string (S s))),(3,.ga L.length (va L)),(4,.flat (.int .i64 (k:Nat)))],[.slot 3],[],[]⟩) L (fun _ _=>True)
  (fun _ k x=>if jk 0 x then .inl ()else .inr (.ret,⟨[(2,.flat (.bool false))],[],[],[]⟩)) (fun _=>(.exit 0,⟨[(0,.flat (.string (S s)))],[],[],[]⟩)) (fun _ k x _ A y t=>?_) (fun _ _=>by simp only[go_sem,simprocAttr]) (fun _ _ _ _ _ _ _ _=>trivial) (fun _ _ x r h=>by split at h<;>simp at h;rw[<-h];simp) (fun _ _=>?_) (fun _=>by simp) () trivial Im
 ·have d:=fk (body:=oa (da code lib) ia wC) (live:=[0,5]) (nb:=0) (fun(_:Unit) k=>⟨[(0,.flat (.string (S s))),(5,.flat (.int .i64 (k:Nat)))],[],[],[]⟩) s (fun _ _=>True)
   (fun _ k x=>if okB s k x then .inl ()else .inr (.ret,⟨[(2,.flat (.bool false))],[],[],[]⟩)) (fun _=>(.exit 2,⟨[],[],[],[]⟩)) (fun _ k c _ A y t=>?_) (fun _ _=>by simp only[go_sem,simprocAttr]) (fun _ _ _ _ _ _ _ _=>trivial) (fun _ _ x r h=>by split at h<;>simp at h;rw[<-h];simp) (fun _ _=>?_) (fun _=>by simp) () trivial Im
  ·rw[oB]at b
   rw[MW]at d;simp only[n0]at b d;cases e:L.all (jk 0)with
   |false=>
    simp only[e,Ha,if_false]at b;exact ye @Gt.eq_1 @Pc @De
   |true=>
    simp only[e,if_true]at b;cases g:Oo (okB s) 0 s with
    |false=>
     simp only[g,Ha,if_false]at d;exact mj @Gt.eq_1 @Pc @pd @fi @vk
    |true=>
     simp only[g,if_true]at d;exact mj @Gt.eq_1 @Pc @pd @fi @vk
  ·have c1:(k:Int)<s.length:=aa
   have c2:(0:Int)<=(k:Nat):=aa
   have B:IntKind.i64.wrap ((k:Int)+1)=((k+1:Nat):Int):=wrap64 aa;have C:(⟨#[61,63]⟩:ByteArray)=S [61,63]:=rfl;have g:=So (lib:=lib) s [61,63] k hs ea aa;unfold okB;obtain⟨n,p⟩:∃n,c.toNat=n:=⟨_,rfl⟩;obtain⟨i,e⟩:∃i,Ub s [61,63] k=i:=⟨_,rfl⟩;rw[p,e];rw[e]at g;have u:(((n:Nat):Int)<(32:Int))=(n<32):=by apply propext;omega
   have v:((126:Int)<((n:Nat):Int))=(126<n):=by apply propext;omega
   rcases mb (n<32)with a|a
   all_goals first|(exfalso;omega)|skip
   all_goals rcases mb (126<n)with a2|a2
   all_goals first|(exfalso;omega)|skip
   all_goals
    first|have e1:=eq_false a|have e1:=eq_true a
    first|have e2:=eq_false a2|have e2:=eq_true a2
    clear a a2
   all_goals cases i
   all_goals exact ua YT
  ·have c1:¬(s.length:Int)<s.length:=aa
   exact ua YT
 ·have c1:(k:Int)<L.length:=aa
  have c2:(0:Int)<=(k:Nat):=aa
  have B:IntKind.i64.wrap ((k:Int)+1)=((k+1:Nat):Int):=wrap64 aa;have e:(va L).drop k=.flat (.string (S x))::(va L).drop (k+1):=by simp only[va,<-rm,t,Xb]
  have d:1<=((va L).drop (k+1)).length+1:=aa
  unfold jk;obtain⟨n,p⟩:∃n,x.length=n:=⟨_,rfl⟩;rw[p,Zc];have u:(((n:Nat):Int)<(1:Int))=(n<1):=by apply propext;omega
  have v:((60:Int)<((n:Nat):Int))=(60<n):=by apply propext;omega
  rcases mb (n<1)with a|a
  all_goals first|(exfalso;omega)|skip
  all_goals rcases mb (60<n)with a2|a2
  all_goals first|(exfalso;omega)|skip
  all_goals
   first|have e1:=eq_false a|have e1:=eq_true a
   first|have e2:=eq_false a2|have e2:=eq_true a2
   clear a a2
  all_goals exact ye XT @sa.{0} @dd
 ·have c1:¬(L.length:Int)<L.length:=aa
  exact ua XT
def ls(lib:Callee)(enc:ba->ba):Prop:=∀s:ba,s.length<=100->(enc s).length<=136/\lib 177 [.flat (.string (S s))] [] []=some ([.flat (.string (S (enc s)))],false,[],[])
def zcX{enc}(H:ls lib enc)(s:ba)(h:s.length<=100):da code lib 177 [.flat (.string (S s))] [] []=some ([.flat (.string (S (enc s)))],false,[],[]):=
 tf ha pa (H s h).2
def bP{enc}(H:ls lib enc)(s:ba)(h:s.length<=100):da code lib 130 [.flat (.string (S s))] [] []=some ([.flat (.string (S (Gc enc s)))],false,[],[]):=by
 refine ja B0 (qa rfl) ?_;have d:=zcX H s h;have e:(⟨#[61,63,85,84,70,45,56,63,66,63]⟩:ByteArray)=S Md:=rfl;have b:(⟨#[63,61]⟩:ByteArray)=S [63,61]:=rfl;have a:Md++enc s++[63,61]=Gc enc s:=rfl;have c:=(H s h).1;have g:Md.length+(enc s).length<=za:=by unfold za;simp only[Md,sa,Ca];omega
 have i:(Md++enc s).length+2<=za:=by unfold za;simp only[Md,Da,sa,Ca];omega
 exact ua @sa.{0}
def br(enc:ba->ba)(q:List ba×ba)(_:Nat)(r:Nat):(List ba×ba) ⊕ (Out×St):=.inl (if 45<q.2.length+(Ka r).length then(q.1++[Gc enc q.2],Ka r)else(q.1,q.2++Ka r))
theorem yJ(enc)(fin):∀(l)(out)(a)(k),Ve (br enc) fin (out,a) k l=fin (Me (fun o x=>o++[x]) enc out a l)
 |[],out,a,k=>rfl
 |r::l,out,a,k=>by
  simp only[Ve,br,Me];by_cases h:45<a.length+(Ka r).length
  ·simp only[h,if_true];exact yJ enc fin l _ _ _
  ·simp only[h,if_false];exact yJ enc fin l _ _ _
theorem OQ:∀(L o:List ba),L.foldl (fun o x=>o++[x]) o=o++L
 |[],o=>by simp
 |x::L,o=>by rw[Pf,OQ L];simp
theorem JE(enc):∀(l)(out)(a),a.length<=45->(Me (fun o x=>o++[x]) enc out a l).2.length<=45/\(Me (fun o x=>o++[x]) enc out a l).1.length<=out.length+l.length
 |[],out,a,h=>⟨h,by simp[Me]⟩
 |r::l,out,a,h=>by
  have b:=ch r;simp only[Me];split
  ·have:=JE enc l (out++[Gc enc a]) (Ka r) aa
   grind
  ·have:=JE enc l out (a++Ka r) la
   grind
def bt(R:List Nat)(q:List ba×ba)(k:Nat):St:=⟨[(3,.ga q.1.length (va q.1)),(4,.ga R.length (Nd R)),(5,.flat (.string (S q.2))),(6,.flat (.int .i64 (k:Nat)))],[.slot 3],[],[]⟩
theorem rR:∀a,Eb (Nd a)=true
 |[]=>rfl
 |c::a=>by show Eb (.flat (.int .i64 (c:Nat))::Nd a)=true;simp only[Eb,PV.sj,rR a,pd]
def zid{enc:ba->ba}(H:ls lib enc)(s:ba)(hs:s.length<=1000000):da code lib 66 [.flat (.string (S s))] [] []=some ([.ga (Ed enc s).length (va (Ed enc s))],true,[],[]):=by
 have g:(⟨#[]⟩:ByteArray)=S []:=rfl;have j:=zcx (lib:=lib) s aa;by_cases p:s=[]
 ·have d:=eq_true p
  refine ja GD (qa rfl) ?_;simp only[go_sem,simprocAttr,g,Mo,d,Ed,va,Fe,Ca]
 have d:=eq_false p;cases v:Ni s with
 |true=>
  rw[v]at j;have hcut:=hP (lib:=lib) s 32 aa;have a:((32:UInt8).toNat:Int)=32:=rfl;rw[a]at hcut;refine ja GD (qa rfl) ?_;exact ye @Ed.eq_1 @Pc @ed
 |false=>
  rw[v]at j;have l:=iV (lib:=lib) s aa;have u:=zH s;obtain⟨R,z⟩:∃R,Kd s=R:=⟨_,rfl⟩;rw[z]at l u
  have b:=fk (body:=oa (da code lib) ia yC) (live:=[3,4,5,6]) (nb:=0) (bt R) R (fun q k=>q.2.length<=45/\q.1.length<=k)
   (br enc) (fun q=>(.exit 0,⟨[(3,.ga q.1.length (va q.1)),(5,.flat (.string (S q.2)))],[.slot 3],[],[]⟩)) (fun⟨out,a⟩ k r n i c A=>?_) (fun _ _=>by simp only[bt,go_sem,simprocAttr]) (fun⟨out,a⟩ k r a' n _ _ h=>by
     grind [ch,br]) (fun _ _ x r h=>by grind [br]) (fun⟨out,a⟩ n=>?_) (fun _=>by simp) ([],[]) ⟨ea,Aa _⟩ (by grind [ia])
  ·rw[yJ]at b
   have i:=JE enc R [] [] ea;have c:=fz (fun o x=>o++[x]) enc R [] [];obtain⟨⟨out,a⟩,w⟩:∃q,Me (fun o x=>o++[x]) enc [] [] R=q:=⟨_,rfl⟩;rw[w]at b i c;dsimp only at i c;rw[OQ,Ma]at c;simp only[bt,n0,Ca,va,Fe]at b;have e2:List.map (fun x=>PV.flat (.string (S x))) out=va out:=rfl;rw[e2]at b;have e:=bP H a aa;have t:out.length+1<=za:=by unfold za;simp only[Ca]at i;omega
   have e1:[PV.flat (.string (S (Gc enc a)))]=va [Gc enc a]:=rfl;have y:Ed enc s=out++[Gc enc a]:=by simp only[Ed,p,v,z,Ha,if_false];exact c
   rw[y];refine ja GD (qa rfl) ?_;simp only[go_sem,simprocAttr,g,Mo,d,j,l,rR,b,e,dd,Mf,t]
   grind [Nr]
  ·dsimp only at n
   have c1:(k:Int)<R.length:=aa
   have c2:(0:Int)<=(k:Nat):=aa
   have C:IntKind.i64.wrap ((k:Int)+1)=((k+1:Nat):Int):=wrap64 aa;have w:(Nd R).drop k=.flat (.int .i64 (r:Nat))::(Nd R).drop (k+1):=by simp only[Nd,<-rm,A,Xb]
   have i:1<=((Nd R).drop (k+1)).length+1:=aa
   have c:=Gn (lib:=lib) r;have E:=ch r;have D:IntKind.i64.wrap ((a.length:Int)+((Ka r).length:Int))=((a.length+(Ka r).length:Nat):Int):=by rw[wrap64 aa];rfl
   have F:a.length+(Ka r).length<=za:=Ie
   have B:(Ka r).length<=za:=Ie
   have t:out.length+1<=za:=Ie
   have e:=bP H a aa;have e1:[PV.flat (.string (S (Gc enc a)))]=va [Gc enc a]:=rfl;by_cases h:45<a.length+(Ka r).length
   ·have y:(45:Int)<((a.length+(Ka r).length:Nat):Int):=aa
    simp only[OH,bt,br,go_sem,simprocAttr,Ua,Pj,gc,c1,c2,C,D,w,i,sa,c,h,y,e,g,t,B,dd,Mf,Ma]
    grind [Nr]
   ·have y:¬(45:Int)<((a.length+(Ka r).length:Nat):Int):=aa
    exact ze OH @bt.eq_1 @br.eq_1 @NE @sa.{0} @dd
  ·dsimp only at n
   have c1:¬(R.length:Int)<R.length:=aa
   exact Kb OH @bt.eq_1
def cr(q:ba×Nat)(_:Nat)(x:ba):(ba×Nat) ⊕ (Out×St):=.inl (Rg q x)
theorem PW(fin):∀(l)(q)(k),Ve cr fin q k l=fin (l.foldl Rg q)
 |[],q,k=>rfl
 |x::l,q,k=>by simp only[Ve,cr,Pf];exact PW fin l _ _
def dt(L:List ba)(q:ba×Nat)(k:Nat):St:=⟨[(6,.flat (.string (S q.1))),(7,.flat (.int .i64 (q.2:Nat))),(8,.ga L.length (va L)),(9,.flat (.int .i64 (k:Nat)))],[.slot 8],[],[]⟩
theorem MJ{enc}(B:dj lib enc)(H:ls lib enc)(f v:ba)(I:v.length<=10000)(R:f.length<=10000):da code lib 30 [.flat (.string (S f)),.flat (.string (S v))] [] []=
 some ([.flat (.string (S (if Hf f then bf enc f v else[]))),.flat (.int .i64 (if Hf f then 0 else 1))],false,[],[]):=by
 refine ja A0 (qa rfl) ?_;have t:=T_ (lib:=lib) f aa;have g:(⟨#[]⟩:ByteArray)=S []:=rfl;have i:(⟨#[58]⟩:ByteArray)=S [58]:=rfl;have e:(⟨#[13,10]⟩:ByteArray)=S [13,10]:=rfl;have j:(⟨#[32]⟩:ByteArray)=S [32]:=rfl;cases c:Hf f with
 |false=>
  rw[c]at t;exact ta
 |true=>
  rw[c]at t;have A:=zid H v aa;have d:=IJ B v I;obtain⟨L,z⟩:∃L,Ed enc v=L:=⟨_,rfl⟩;rw[z]at A d;have a:=fk (body:=oa (da code lib) ia xC) (live:=[6,7,8,9]) (nb:=0) (dt L) L (fun q k=>kr q k) cr (fun q=>(.exit 0,⟨[(6,.flat (.string (S q.1)))],[],[],[]⟩)) (fun⟨l,long⟩ k x n G E F=>?_) (fun _ _=>by simp only[dt,go_sem,simprocAttr]) (fun q k x a' n G T h=>by
   grind [cr,cJ]) (fun _ _ x r h=>by grind [cr]) (fun⟨l,long⟩ n=>?_) (fun _=>by simp) (f++[58],f.length+1) ⟨la,aa⟩ (by grind [ia])
  ·rw[PW]at a
   have b:=bz L 0 (f++[58],f.length+1) ⟨la,aa⟩ d;obtain⟨⟨l,long⟩,y⟩:∃q,L.foldl Rg (f++[58],f.length+1)=q:=⟨_,rfl⟩;rw[y]at a b;dsimp only at b;have p:bf enc f v=l++[13,10]:=by simp only[bf,z,y]
   have u:f.length+1<=za:=Ie
   have w:l.length+2<=za:=Ie
   have o:(f++[58]).length=f.length+1:=ea
   simp only[dt,n0]at a;simp only[go_sem,simprocAttr,t,g,i,e,c,Pj,Ua,sa,o,u,w,A,a,p,Pc]
  ·obtain⟨C,D⟩:=n
   dsimp only at C D;have J:=d.2 x (di E);have c1:(k:Int)<L.length:=aa
   have c2:(0:Int)<=(k:Nat):=aa
   have M:IntKind.i64.wrap ((k:Int)+1)=((k+1:Nat):Int):=wrap64 aa;have p:(va L).drop k=.flat (.string (S x))::(va L).drop (k+1):=by simp only[va,<-rm,F,Xb]
   have o:1<=((va L).drop (k+1)).length+1:=aa
   have N:IntKind.i64.wrap ((long:Int)+1)=((long+1:Nat):Int):=wrap64 aa;have O:IntKind.i64.wrap (((long+1:Nat):Int)+(x.length:Int))=((long+1+x.length:Nat):Int):=by rw[wrap64 aa];rfl
   have P:IntKind.i64.wrap 1=1:=ha
   have Q:IntKind.i64.wrap (1+(x.length:Int))=((1+x.length:Nat):Int):=by rw[wrap64 aa];rfl
   have u:l.length+2<=za:=Ie
   have w:(l++[13,10]).length+1<=za:=by unfold za;simp only[Da,sa,Ca];omega
   have K:(l++[13,10]++[32]).length+x.length<=za:=by unfold za;simp only[Da,sa,Ca];omega
   have U:l.length+1<=za:=Ie
   have V:(l++[32]).length+x.length<=za:=by unfold za;simp only[Da,sa,Ca];omega
   by_cases h:76<=x.length+long
   ·have y:(76:Int)<((long+1+x.length:Nat):Int):=aa
    have b:ek x long=true:=by simp[ek,h]
    have e1:qk l x long=l++[13,10]++[32]++x:=by simp[qk,b]
    have e2:ll x long=1+x.length:=by simp[ll,b]
    simp only[NH,dt,cr,Rg,e1,e2,go_sem,simprocAttr,Ua,Pj,gc,c1,c2,M,N,O,P,Q,p,o,sa,y,e,j,u,w,K]
   ·have y:¬(76:Int)<((long+1+x.length:Nat):Int):=aa
    have b:ek x long=false:=by simp[ek,h]
    have e1:qk l x long=l++[32]++x:=by simp[qk,b]
    have e2:ll x long=long+1+x.length:=by simp[ll,b];omega
    exact ze NH @dt.eq_1 @cr.eq_1 @Rg.eq_1 @dd @sa.{0}
  ·have c1:¬(L.length:Int)<L.length:=aa
   exact Kb NH @dt.eq_1
section
variable {P:Program} {Γ:ue} {cf:Callee}
end
variable {lib:Callee}
def If:ba:=[123,34,116,101,120,116,34,58,34]
def Ng:ba:=[34,44,34,108,111,117,100,34,58,116,114,117,101,125]
def Og:ba:=[34,44,34,108,111,117,100,34,58,102,97,108,115,101,125]
def Oi(t:ba)(l:Bool):ba:=If++(ic t++(if l then Ng else Og))
def T1(t:ba)(ht:t.length<=1000):da code lib 35 [.flat (.string (S t)),.flat (.int .i64 4000)] [] []=some ([.flat (.string (S t)),.flat (.bool false)],false,[],[]):=xa M0
def W1(t:ba)(ht:t.length<=1000):da code lib 194 [.flat (.string (S t)),.flat (.int .i64 4000)] [] []=some ([.flat (.string (S t)),.flat (.bool false)],false,[],[]):=by
 have e1:da code lib 255 [.flat (.string (S t)),.flat (.int .i64 4000)] [] []=some ([.flat (.string (S t)),.flat (.bool false),.flat (.bool true)],false,[],[]):=xa x1;exact xa w1
def pY(t:ba)(l:Bool)(ht:t.length<=1000):da code lib 18 [.agg [.flat (.string (S t)),.flat (.bool l)]] [] []=some ([.flat (.string (S (if sd t=t then Oi t l else[]))),.flat (.int .i64 (if sd t=t then 0 else 7))],false,[],[]):=by
 have d:(⟨#[]⟩:ByteArray)=S []:=rfl;have b:za=4294967296:=rfl;have e1:=Ou (lib:=lib) t aa;have e2:=T1 (lib:=lib) t ht;have e3:=dX (lib:=lib) t aa;have c:=vu t;unfold Oi If Ng Og;by_cases a:sd t=t
 ·simp only[if_pos a]
  rw[a]at e1;generalize ic t=w at*;cases l
  ·refine ja KD (qa rfl) ?_
   exact ua @Da.{0}
  ·refine ja KD (qa rfl) ?_
   exact ua @Da.{0}
 ·simp only[if_neg a]
  generalize sd t=u at*;clear e2 e3 c;exact xa KD
def sY(a:Qb lib)(t:ba)(l:Bool)(ht:t.length<=1000)(c:sd t=t):da code lib 122 [.agg [.flat (.string (S t)),.flat (.bool l)]] [] []=some ([.flat (.string (S (Oi t l))),.flat (.int .i64 0)],false,[],[]):=by
 have h:(⟨#[]⟩:ByteArray)=S []:=rfl;have b:za=4294967296:=rfl;have e1:=Pu a t aa;have e2:=W1 (lib:=lib) t ht;have e3:=WR a t aa;have g:=vu t;have a0:da code lib 119 [.flat (.int .i64 0)] [] []=some ([.flat (.string (S If))],false,[],[]):=fg ca;have d:da code lib 119 [.flat (.int .i64 1)] [] []=some ([.flat (.string (S Ng))],false,[],[]):=fg ca;have e:da code lib 119 [.flat (.int .i64 2)] [] []=some ([.flat (.string (S Og))],false,[],[]):=fg ca;rw[c]at e1;unfold Oi;unfold If Ng Og at*;generalize ic t=w at*;clear a;cases l
 ·refine ja uO (qa rfl) ?_
  exact ua @Da.{0}
 ·refine ja uO (qa rfl) ?_
  exact ua @Da.{0}
def zcF(w:ba):Ng.isSuffixOf (w++Og)=false:=by
 unfold List.isSuffixOf;rw[List.reverse_append];rfl
def zU(w e:ba):e.isSuffixOf (w++e)=true:=by rw[xB];exact List.suffix_append _ _
def CU(w e:ba):(w++e).take ((w++e).length - e.length)=w:=by rw[Da,Nat.add_sub_cancel];exact List.take_left
def zdb(b:Qb lib)(c:Yg lib)(a:Nj lib)(e:Ko lib)(t:ba)(l:Bool)(ht:t.length<=1000)(d:sd t=t):da code lib 59 [.flat (.string (S (Oi t l)))] [] []=some ([.agg [.flat (.string (S t)),.flat (.bool l)],.flat (.int .i64 0)],false,[],[]):=by
 have x:(⟨#[]⟩:ByteArray)=S []:=rfl;have h:za=4294967296:=rfl;have v:=vu t;have e1:=sY b t l ht d;have e2:=VU e b (ic t) aa (NP d);have a0:da code lib 119 [.flat (.int .i64 0)] [] []=some ([.flat (.string (S If))],false,[],[]):=fg ca;have n:da code lib 119 [.flat (.int .i64 1)] [] []=some ([.flat (.string (S Ng))],false,[],[]):=fg ca;have p:da code lib 119 [.flat (.int .i64 2)] [] []=some ([.flat (.string (S Og))],false,[],[]):=fg ca;have q:da code lib 121 [.agg [.flat (.string (S t)),.flat (.bool true)]] [] []=some ([.flat (.bool true)],false,[],[]):=xa vO;have u:da code lib 121 [.agg [.flat (.string (S t)),.flat (.bool false)]] [] []=some ([.flat (.bool true)],false,[],[]):=xa vO;have c1:∀r,If.isPrefixOf (If++r)=true:=fun r=>by rw[zk];exact rx _ _
 have c2:∀r:ba,(If++r).drop If.length=r:=fun r=>es
 have lp:If.length=9:=rfl;have A:Ng.length=14:=rfl;have B:Og.length=15:=rfl;cases l
 ·have g:=Rs c (Oi t false) If (by simp[Oi];omega)
  have s1:=kp a (ic t++Og) Ng La;have k:=kp a (ic t++Og) Og La;rw[show Oi t false=If++(ic t++Og)from rfl,c1,c2,if_pos rfl]at g;rw[zcF]at s1;rw[zU,if_pos rfl,CU]at k;rw[show Oi t false=If++(ic t++Og)from rfl]at e1⊢;simp only[Ha,if_false]at s1;generalize If++(ic t++Og)=y at*;generalize ic t++Og=z at*;generalize ic t=w at*;generalize If=o at*;generalize Ng=i at*;generalize Og=j at*;clear b c a e d c1 c2;refine ja BD (qa rfl) ?_;exact Cp @lc @Bb @Mb @Zb @Wc EH @BEq.rfl.{0}
 ·have g:=Rs c (Oi t true) If (by simp[Oi];omega)
  have s1:=kp a (ic t++Ng) Ng La;rw[show Oi t true=If++(ic t++Ng)from rfl,c1,c2,if_pos rfl]at g;rw[zU,if_pos rfl,CU]at s1;rw[show Oi t true=If++(ic t++Ng)from rfl]at e1⊢;generalize If++(ic t++Ng)=y at*;generalize ic t++Ng=z at*;generalize ic t=w at*;generalize If=o at*;generalize Ng=i at*;generalize Og=j at*;clear b c a e d c1 c2;refine ja BD (qa rfl) ?_;exact Cp @lc @Bb @Mb @Zb @Wc EH @BEq.rfl.{0}
def zda(b:Yg lib)(a:Nj lib):da code lib 59 [.flat (.string (S []))] [] []=some ([.agg [.flat (.string (S [])),.flat (.bool false)],.flat (.int .i64 7)],false,[],[]):=by
 have h:(⟨#[]⟩:ByteArray)=S []:=rfl;have a0:da code lib 119 [.flat (.int .i64 0)] [] []=some ([.flat (.string (S If))],false,[],[]):=fg ca;have e:da code lib 119 [.flat (.int .i64 1)] [] []=some ([.flat (.string (S Ng))],false,[],[]):=fg ca;have g:da code lib 119 [.flat (.int .i64 2)] [] []=some ([.flat (.string (S Og))],false,[],[]):=fg ca;have c:=Rs b [] If ea;have s1:=kp a [] Ng ea;have d:=kp a [] Og ea;rw[show If.isPrefixOf ([]:ba)=false from rfl,if_neg ha]at c;rw[show Ng.isSuffixOf ([]:ba)=false from rfl,if_neg ha]at s1;rw[show Og.isSuffixOf ([]:ba)=false from rfl,if_neg ha]at d;generalize If=o at*;generalize Ng=i at*;generalize Og=j at*;clear b a;refine ja BD (qa rfl) ?_;exact Cp @lc @Bb @Mb @Zb @Wc EH @BEq.rfl.{0}
attribute [go_sem] zgz zgQ zgR zgt zgV zgw zgv zgC zgS zgT zg0 zgB zgu zgq
attribute [go_sem] zgx zgy zgO zgL zgM zgN zgZ zgE zgF zgG zgH zgI zgU zgX
attribute [go_sem] zgs zgW zgY zgD zgJ zgK zgr zgP zgA zit zis zir ziy ziw
attribute [go_sem] ziv ziz zix ziu ziA
section
variable {P:Program} {w w':World} {r:Option Nat} {Fr Fr':Nat→Nat} {β β':List Nat} {T:List Deferred} {base nt:Nat} {M:Nat→Prop} {w0:World} {F0:Nat→Nat} {st st':St} {a a':Act} {cf:Callee} {Γ:ue} {S:S0}
def Dx(F:Fence)(P:Program)(o:Oper):Prop:=∀(ρ:Operand->Value)(w:World)(d:Deferred)(w':World),(o.semAt F.round ρ).run P w≠.ok (.defer d) w'
def za7{F}{n}{o}(i:Dx F P o){K}{Q Q'}(j:∀e a' w',e≠.normal->Q e a' w'->Q' e a' w')(h:o.wpIn F n P a w K Q):o.wpIn F n P a w (fun a' w'=>K a' w'/\a'.defers=a.defers) Q':=by
 unfold Oper.wpIn at*;refine⟨h.1,?_⟩;have b:=h.2;have p:=i a.eval w;generalize (o.semAt F.round a.eval).run P w=x at*;cases x with
 |ok y k=>
  cases y with
  |value v=>exact⟨b,Om _ _ _⟩
  |skip=>exact⟨b,Om _ _ _⟩
  |defer d=>grind
  |enter f args=>exact⟨b.1,CallsIn.mono b.2 (fun e c g=>by
   grind [Om,LetsOut])⟩
  |row q args=>exact⟨b.1,RowsIn.mono b.2 (fun v c g=>⟨g,Om _ _ _⟩)⟩
  |round l f tmps az body=>exact⟨b.1,RoundIn.mono b.2 (fun e c g=>by
   grind [Om,LetsOut])⟩
  |_=>exact b.elim
 |halt y k=>
  cases y with
  |panic v=>exact j _ _ _ ea b
  |_=>exact b.elim
theorem Sx{F}{n}{md}{ops}(d:∀(i:Nat)(o),ops[i]?=some o->Dx F P o){Q Q'}{D}(g:∀e a' w',Q e a' w'->(e=.normal->a'.defers=D)->Q' e a' w'):∀(fuel)(b)(a)(w),a.defers=D->wpAnyIn F n P md ops Q fuel b a w->wpAnyIn F n P md ops Q' fuel b a w
 |0,b,a,w,j,h=>⟨h.1,g _ _ _ h.2 fun _=>j⟩
 |fuel+1,b,a,w,j,h=>by
  refine⟨fun e=>g _ _ _ (h.1 e) fun _=>j,fun i t=>?_⟩;have c:=h.2 i t;unfold wpOpIn at c⊢;split
  ·rename_i l
   simp only[l]at c;exact Sx d g fuel _ a w j c
  ·rename_i o l
   simp only[l]at c;split
   ·rename_i q
    simp only[q,if_true]at c;refine Oper.wpIn_mono (fun a' w' k=>?_) (za7 (d i o l) (Q':=Q') (fun e a' w' p k=>g _ _ _ k fun r=>absurd r p) c);exact Sx d g fuel _ a' w' (k.2.trans j) k.1
   ·rename_i q
    simp only[q]at c;exact⟨c.1,Sx d g fuel _ _ w ((Om _ _ _).trans j) c.2⟩
def zdj(g:Gb P Γ cf)(z:Good Γ S){ops}{qs}{q}(b:Js P qs S.nt ops=some q){live}{stk F}(v:bg cf q.1 st=some stk)(x:yd cf live q.2 stk=some F)
 (e:st.al=[]) (hr:Rl P S st a w) {Q} (y:∀s a' w',s.Gf live=F->Rl P S s a' w'->Q .normal a' w'):wpAnyIn (fw r) 0 P .any ops Q ops.size (Array.replicate ops.size false) a {w with drawn:=w.drawn+1}:=by
 unfold Js at b;obtain⟨cs,d,b⟩:=qb b;obtain⟨u,h,rfl⟩:=qm d;obtain⟨p,n⟩:=zr h;split at b
 case isFalse=>cases b
 rename_i k;cases b;have l:Rl P S st a {w with drawn:=w.drawn+1}:=by
  obtain⟨Fr,β,R,B⟩:=hr;have A:Below w.heap.size w {w with drawn:=w.drawn+1}:=⟨rfl,rfl,rfl,Aa _,fun _ _=>rfl⟩;obtain⟨t,i⟩:=R.grow A (Fr':=Fr) (fun _ _=>rfl);exact⟨Fr,β,t,B.trans i⟩
 exact PP g z (ali:=ops.toList.filterMap Iq) k (fun j c o=>by
  rw[jx]at o;obtain⟨t,i,rfl⟩:=qm o
  grind [ZS]) e v x l y
def Rel.zdt(R:Rel P T base M w0 F0 nt st a w Fr β)(n:st.ow=[]){st'}{a'}{nt'}(c:∀i,Rd w Fr β (look st'.sl i) (a'.tmps.getD i undef))(b:a'.tmps.size=nt')(k:a'.defers=a.defers)(j:st'.ow=[])(e:st'.al=[])(h:st'.bx=st.bx):Rel P T base M w0 F0 nt' st' a' w Fr β where
 sl:=c
 nt:=b
 df:=by grind [df]
 bx:=by grind [bx]
 nd:=R.nd
 own:=fun L d=>by grind
 sep:=fun L d=>by grind
 out:=fun L d=>by grind
 al:=fun p o=>by grind
 may:=fun g l=>R.may g (.inl (by
  grind))
 old:=R.old
 ge:=R.ge
 os:=R.os
 tape:=R.tape
 output:=R.output
def fZ{o}{b}{x}(R:Rel P T base M w0 F0 nt st a w Fr β)(y:Rl P ⟨w.heap.size,ud w β [],w,Fr,o,w,Fr,β,[]⟩ b x w'){bx'}(k:trim st.bx.length [] b.bx=bx')(r:bx'.length=st.bx.length):
 ∃Fr',Rel P T base M w0 F0 nt ⟨st.sl,[],[],bx'⟩ a w' Fr' β/\Le w Fr β w' Fr' β:=by
 obtain⟨t,B,u,l⟩:=y;have v:Rel P T base M w0 F0 nt ⟨st.sl,[],[],st.bx⟩ a w Fr β:=R.Mm (fun i=>.inr rfl) rfl (fun L j=>by cases j) rfl;obtain⟨C,c⟩:=zA (vs2:=[]) (v0:=.tuple #[]) (os:=false) (bx:=st.bx) (oc':=Th bx'.length b.ow) R.bx.1 u.bare l (by simp[Rc,Rd,ra]) (fun h=>by cases h) k rfl;have n:=c;have:=kD (S:=⟨base,M,w0,F0,nt,w,Fr,β,T⟩) (dst:=none) (f:=0) (args:=[]) n (st':=⟨st.sl,(Th bx'.length b.ow).filter Ba++[],[],bx'⟩) pa (fun d h=>by cases h) v (Le.refl _ _ _) (K:=fun a' w'=>Rl P ⟨base,M,w0,F0,nt,w,Fr,β,T⟩ ⟨st.sl,(Th bx'.length b.ow).filter Ba++[],[],bx'⟩ a' w') (fun a' w' hr=>hr);obtain⟨g,p,q,e⟩:=this;have z:p=β:=by
  have e1:=q.bx.1;have e2:=R.bx.1;dsimp only at e1;refine List.ext_getElem? fun i=>?_
  by_cases A:i<β.length
  ·have:=e.box i β[i] (qe A)
   grind
  ·grind
 subst z;exact⟨g,q.Mm (fun i=>.inr rfl) rfl (fun L j=>by cases j) rfl,e⟩
end
end ya

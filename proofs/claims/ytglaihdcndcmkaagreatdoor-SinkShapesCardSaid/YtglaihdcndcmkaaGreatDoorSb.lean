/- Texts of this proof, merged. -/
import Derived.Test.YtglaihdcndcmkaaGreatDoorSa
import Derived.RangeFuncIn
import Derived.Orders
import Derived.ReadAgain
import Derived.ChangeSame
import Derived.ChangeReads
import Derived.DataReads
import Derived.WideShapes
set_option linter.all false
open Go Go.RowKit
set_option maxHeartbeats 4000000
namespace ya
structure lf where
 D:Nat→Prop
 G:World→Prop
 lt:∀ w,G w→∀ g,D g→g<w.heap.size
 Ye:∀ w w',G w→(∀ g,D g→w'.heap[g]? =w.heap[g]?)→G w'
def Ph:Act:=⟨#[],[]⟩
def qh(bx:Oa)(oc:List Loc):St:=⟨[],oc,[],bx⟩
def se(w:World)(β:List Nat)(oc:List Loc)(g:Nat):Prop:=g∈β\/∃L∈oc,∃v,Ga Ph w β L=some v/\v.ownBlock=some g
structure nm (P:Program) (Γ:lf) (w:World) (Fr:Nat→Nat) (β:List Nat) (args:List PV) (vs:List Value) (bx:Oa) (oc:List Loc):Prop where
 g:Γ.G w
 args:ta w Fr β args vs
 rel:Rel P [] w.heap.size (se w β oc) w Fr 0 (qh bx oc) Ph w Fr β
 cells:∀ L∈oc,Da L=true
 Nj:∀ g,Γ.D g→¬ se w β oc g
structure ui (P:Program) (w:World) (Fr:Nat→Nat) (β:List Nat) (oc:List Loc) (vs':List PV) (os:Bool) (bx':Oa) (oc':List Loc) (v:Value) (w':World) (Fr':Nat→Nat) (β':List Nat):Prop where
 rd:Rd w' Fr' β' (ed vs') v
 rel:Rel P [] w.heap.size (se w β oc) w Fr 0 (qh bx' oc') Ph w' Fr' β'
 le:Le w Fr β w' Fr' β'
 cells:∀ L∈oc',Da L=true
 own:os=true→mg P w' Fr' (ed vs') v∧∀ g,v.ownBlock=some g→(w.heap.size≤g∨se w β oc g)∧g ∉ β'∧∀ L∈oc',∀ u,Ga Ph w' β' L=some u→u.ownBlock≠some g
def Qj(P:Program)(f:FuncId):Bool:=match P.funcs[f]? with
 |some fn=>fn.name != "runtime.NumGoroutine" &&fn.body.isSome
 |none=>false
def Enters(P:Program)(f:FuncId)(vs:List Value)(w:World)(R:Ending->World->Prop):Prop:=
 if f=kb then∃l az r,vs=.func (.yield l) #[] #[]::az/\w.heap[l]?=some (.loop r)/\az.length=r.params.size/\
  RoundIn Fence.wide 0 P l r.fn ((r.params.zip az.toArray).foldl (fun tmps(t,a)=>tmps.setIfInBounds t a) r.tmps) r.assign r.body w R
 else Qj P f=true/\Calls P f vs.toArray w R
theorem Enters.mono{P}{f}{vs}{w}{R a}(h:Enters P f vs w R)(k:∀e w',R e w'->a e w'):Enters P f vs w a:=by
 unfold Enters at h⊢;split
 ·rename_i hf
  rw[if_pos hf]at h;obtain⟨l,az,r,b,c,d,g⟩:=h;exact⟨l,az,r,b,c,d,g.mono k⟩
 ·rename_i hf
  rw[if_neg hf]at h;exact⟨h.1,h.2.mono k⟩
def enters_of{P}{f}{vs}{w}{R}(h:Qj P f=true)(a:f≠kb)(k:Calls P f vs.toArray w R):Enters P f vs w R:=by
 grind [Enters]
def xc(P:Program)(Γ:lf)(cf:Callee):Prop:=∀f args bx oc a os bx' oc',cf f args bx oc=some (a,os,bx',oc')->∀w Fr β vs,nm P Γ w Fr β args vs bx oc->
 Enters P f vs w fun e w'=>∃v Fr' β',e=.returned v/\ui P w Fr β oc a os bx' oc' v w' Fr' β'
section
variable {P:Program} {w w':World} {Fr Fr':Nat→Nat} {β β':List Nat} {T:List Deferred} {base nt:Nat} {M:Nat→Prop} {w0:World} {F0:Nat→Nat} {st st':St} {a a':Act} {cf:Callee}
mutual
theorem pS:∀(p:PV)(v:Value),p.pj=true->Rd w Fr β p v->Rd w Fr β' p v
 | .Hd,_,h,_=>by cases h
 | .flat u,v,_,k=>by grind [Rd]
 | .ia n cs,v,h,k=>by
   obtain⟨b,d,a,e,i⟩:=k;refine⟨b,d,a,e,i.imp id ?_⟩;rintro⟨g,o,vs,j,hr,hs,c⟩;exact⟨g,o,vs,j,hr,mr cs vs h hs,c⟩
 | .agg cs,v,h,k=>by
   obtain⟨vs,a,hs,c⟩:=k;exact⟨vs,a,mr cs vs h hs,c⟩
 | .Jc cs,v,h,k=>by
   obtain⟨vs,a,hs⟩:=k;exact⟨vs,a,mr cs vs h hs⟩
 | .ptr b o,v,h,k=>by cases h
 | .vd cs,v,h,k=>by
   obtain⟨g,o,vs,a,hr,hs,c⟩:=k;exact⟨g,o,vs,a,hr,mr cs vs h hs,c⟩
 | .ib f cs,v,h,k=>by cases h
 | .tag f cs,v,h,k=>by
   obtain⟨vs,a,hs⟩:=k;exact⟨vs,a,mr cs vs h hs⟩
 | .Sa b,v,h,k=>by cases h
 | .ve _ _ _,v,h,k=>by cases h
 | .lp _ _ _ _ _,v,h,k=>by cases h
theorem mr:∀(ps:List PV)(vs:List Value),Ib ps=true->ta w Fr β ps vs->ta w Fr β' ps vs
 |[],vs,_,k=>by grind [ta]
 |p::ps,vs,h,k=>by
  simp only[Ib,bc]at h;obtain⟨v,r,a,e,i⟩:=k;exact⟨v,r,a,pS p v h.1 e,mr ps r h.2 i⟩
end
theorem zfh:∀(vs),Ib vs=true->(ed vs).pj=true
 |[],_=>rfl
 |[v],h=>by grind [Ib,ed]
 |v::u::r,h=>h
theorem Ms{base}{w}:Marks [] base w []:=⟨[],List.nodup_nil,rfl,fun D h=>by cases h⟩
def UH(w)(Fr):Rel P [] w.heap.size (se w [] []) w Fr 0 (qh [] []) Ph w Fr []:=
 ⟨fun i=>by simp[qh,look,Rd],rfl,Ms,⟨rfl,fun b cs h=>by grind [qh]⟩,List.nodup_nil,(fun L h=>by cases h),(fun L h=>by cases h),(fun L h=>by cases h),(fun p h=>by cases h),(fun g h=>by
  rcases h with h|⟨L,h,_⟩
  ·cases h
  ·cases h),fun _ _ _=>⟨rfl,rfl⟩,Aa _,rfl,rfl,rfl⟩
def zp{g}:¬se w [] [] g:=by
 rintro(h|⟨L,h,_⟩)<;>cases h
theorem Oi{L}(h:Da L=true):Ga a w β L=Ga Ph w β L:=by
 cases L with
 |slot i=>cases h
 |cell b j=>rfl
theorem fA{L}(h:Da L=true){oc}:bb st L=bb (qh st.bx oc) L:=by
 cases L with
 |slot i=>cases h
 |cell b j=>rfl
def Rel.boxes(R:Rel P T base M w0 F0 nt st a w Fr β):Rel P [] w.heap.size (se w β (st.ow.filter Da)) w Fr 0 (qh st.bx (st.ow.filter Da)) Ph w Fr β:=by
 have b:∀L,L∈st.ow.filter Da->L∈st.ow/\Da L=true:=fun L h=>by grind
 refine⟨fun i=>by simp[qh,look,Rd],rfl,Ms,R.bx,R.nd,fun L d=>?_,fun L d r o q v u g e j=>?_,fun L d v g e=>?_,(fun p h=>by cases h),fun g t=>.inr ?_,fun _ _ _=>⟨rfl,rfl⟩,Aa _,rfl,rfl,rfl⟩
 ·obtain⟨c,k⟩:=b L d
  obtain⟨v,p,l,n,x⟩:=R.own L c
  grind [Oi,fA]
 ·obtain⟨c,k⟩:=b L d
  obtain⟨l,n⟩:=b r o;rw[<-Oi (a:=a) k]at e;rw[<-Oi (a:=a) n]at j;exact R.sep L c r l q v u g e j
 ·obtain⟨c,k⟩:=b L d
  rw[<-Oi (a:=a) k]at e;exact R.out L c v g e
 ·exact t
theorem GD{f}(hf:Qj P f=true){args}:(callFunc f args).run P w=.ok (.enter f args) w:=by
 unfold Qj at hf;split at hf
 ·rename_i fn a
  have b:fn.body.isNone=false:=by cases h:fn.body<;>simp_all
  simp only[callFunc,Qb];show(Result.andThen (.ok P w) _:Result Next)=_;simp only[Rb,a,b];simp_all
 grind
def Rel.uJ(R:Rel P T base M w0 F0 nt st a w Fr β){d}{p}{v}(x:a.tmps.getD d undef=v)(C:look st.sl d=p)(B:mg P w Fr p v)
 (A:∀g,v.ownBlock=some g->(base<=g\/M g)/\g∉β/\∀L∈st.ow,L≠.slot d->∀u,Ga a w β L=some u->u.ownBlock≠some g):Rel P T base M w0 F0 nt {st with ow:=.slot d::st.ow} a w Fr β:=by
 have y:Ga a w β (.slot d)=some v:=by simp only[Ga,x]
 have t:∀L,bb {st with ow:=.slot d::st.ow} L=bb st L:=fun L=>AT rfl rfl
 refine⟨R.sl,R.nt,R.df,R.bx,R.nd,fun L b=>?_,fun L b o i l u z g h n c k=>?_,fun L b u g h c=>?_,R.al,fun g c=>?_,R.old,R.ge,R.os,R.tape,R.output⟩
 ·rcases wb.1 b with rfl|b
  ·grind [bb]
  ·obtain⟨u,q,j,r,D⟩:=R.own L b
   grind
 ·by_cases e:L=.slot d
  ·grind
  ·have j:=(wb.1 b).resolve_left e
   by_cases r:o=.slot d
   ·grind
   ·exact R.sep L j o ((wb.1 i).resolve_left r) l u z g h n c k
 ·by_cases e:L=.slot d
  ·grind
  ·exact R.out L ((wb.1 b).resolve_left e) u g h c
 ·rcases c with c|⟨L,b,u,h,c⟩
  ·exact R.may g (.inl c)
  ·by_cases e:L=.slot d
   ·grind
   ·exact R.may g (.inr ⟨L,(wb.1 b).resolve_left e,u,h,c⟩)
theorem sX{S}{dst}{f}{args}{vs'}{os}{bx'}{oc'}{v}(Q:ui P w Fr β (st.ow.filter Da) vs' os bx' oc' v w' Fr' β')(hs:Lc (fun _ _ _ _=>some (vs',os,bx',oc')) st dst f args=some st')(hdZ:∀d,dst=some d->d<S.nt)
 (R:Rel P S.T S.base S.M S.w0 S.F0 S.nt st a w Fr β) (hlZ:Le S.sw S.sF S.sβ w Fr β) {K:Act->World->Prop} (hKZ:∀a' w',Rl P S st' a' w'->K a' w'):K (a.put dst v) w':=by
 unfold Lc at hs
 ·simp only[fd,Wb]at hs
  have B:∀L,L∈st.ow.filter Da->L∈st.ow/\Da L=true:=fun L h=>by grind
  have Y:∀g,se w β (st.ow.filter Da) g->S.base<=g\/S.M g:=fun g c=>R.may g (c.imp id fun⟨L,k,v,l,h3Z⟩=>⟨L,(B L k).1,v,by grind [Oi],h3Z⟩)
  have A:∀L∈st.ow,Da L=false->∀u g,Ga a w β L=some u->u.ownBlock=some g->g<w.heap.size/\¬se w β (st.ow.filter Da) g:=fun L y hcZ u g t c=>by
   obtain⟨I,p,H,M,V⟩:=R.own L y;rw[t]at H;cases H;refine⟨V.lt c,?_⟩;rintro(h|⟨C,k,I,l,h3Z⟩)
   ·exact R.out L y u g t c h
   ·obtain⟨O,T⟩:=B C k
    rw[<-Oi (a:=a) T]at l;exact R.sep L y C O (fun e=>by grind) u I g t l c h3Z
  have G:∀L,Da L=false->Ga a w' β' L=Ga a w β L:=fun L hcZ=>by
   cases L with
   |slot i=>rfl
   |cell b j=>cases hcZ
  have Z:oc'.filter Da=oc':=VA.2 Q.cells;rw[Z]at hs;obtain⟨N,r⟩:∃N:St,N={st with bx:=bx',ow:=oc'++st.ow.filter (fun L=>!Da L),al:=st.al.filter fun p=>!Da p.2}:=⟨_,rfl⟩;have o:∀L,L∈N.ow->(L∈oc'/\Da L=true)\/(L∈st.ow/\Da L=false):=fun L y=>by
   grind
  have E:∀L u,Da L=true->Ga a w' β' L=some u->Ga Ph w' β' L=some u:=fun L u hcZ h=>by grind [Oi]
  have RmZ:Rel P S.T S.base S.M S.w0 S.F0 S.nt N a w' Fr' β':=by
   have hdf:Marks S.T S.base w' a.defers:=by
    obtain⟨DsZ,d1Z,d2Z,d3Z⟩:=R.df;refine⟨DsZ,d1Z,d2Z,fun D hDZ=>⟨(d3Z D hDZ).1,?_⟩⟩;have x:=(d3Z D hDZ).2;rw[(Q.rel.old D (Kh.1 x).1 fun X=>?_).1]
    ·exact x
    ·rcases X with X|⟨L,y,u,t,z⟩
     ·obtain⟨obZ,H,M⟩:=R.bx.at X
      grind
     ·obtain⟨I,p,H,_,n,cs,_,M⟩:=R.own L (B L y).1
      rw[Oi (B L y).2,t]at H;cases H;rcases M with rfl|⟨g'Z,cap,cur,e,szZ,rfl,V,_⟩
      ·cases z
      ·cases z<;>grind
   refine⟨fun i=>by subst r;exact(R.sl i).mono Q.le,R.nt,hdf,by subst r;exact Q.rel.bx,Q.rel.nd,fun L y=>?_,fun L y C W U u I g t F c J=>?_,fun L y u g t c=>?_,fun q hqZ=>?_,fun g c=>?_,fun b hbZ hMZ=>?_,Xf R.ge Q.rel.ge,Q.rel.os.trans R.os,Q.rel.tape.trans R.tape,Q.rel.output.trans R.output⟩
   ·rcases o L y with⟨k,l⟩|⟨k,l⟩
    ·obtain⟨u,p,H,M,V⟩:=Q.rel.own L k
     refine⟨u,p,by grind [Oi],?_,V⟩;subst r;rw[fA l (oc:=oc')];exact M
    ·obtain⟨u,p,H,M,V⟩:=R.own L k
     refine⟨u,p,na,?_,V.kept fun g c=>?_⟩
     ·subst r
      cases L with
      |slot i=>exact M
      |cell b j=>cases l
     ·obtain⟨O,T⟩:=A L k l u g H c
      exact Q.rel.old g O T
   ·rcases o L y with⟨k,l⟩|⟨k,l⟩
    ·rcases o C W with⟨z,x⟩|⟨z,x⟩
     ·exact Q.rel.sep L k C z U u I g (E L u l t) (E C I x F) c J
     ·rw[G C x]at F
      obtain⟨O,T⟩:=A C z x I g F J;rcases Q.rel.may g (.inr ⟨L,k,u,E L u l t,c⟩)with h|h
      ·omega
      grind
    ·rw[G L l]at t
     obtain⟨O,T⟩:=A L k l u g t c;rcases o C W with⟨z,x⟩|⟨z,x⟩
     ·rcases Q.rel.may g (.inr ⟨C,z,I,E C I x F,J⟩)with h|h
      ·omega
      grind
     ·rw[G C x]at F
      exact R.sep L k C z U u I g t F c J
   ·rcases o L y with⟨k,l⟩|⟨k,l⟩
    ·exact Q.rel.out L k u g (E L u l t) c
    ·intro X
     rcases Q.rel.may g (.inl X)with h|h<;>grind
   ·have x:q∈st.al/\Da q.2=false:=by subst r;simpa using hqZ
    rw[G _ x.2];exact R.al q x.1
   ·rcases c with c|⟨L,y,u,t,c⟩
    ·rcases Q.rel.may g (.inl c)with h|h
     ·exact .inl (Xf R.ge h)
     grind
    ·rcases o L y with⟨k,l⟩|⟨k,l⟩
     ·rcases Q.rel.may g (.inr ⟨L,k,u,E L u l t,c⟩)with h|h
      ·exact .inl (Xf R.ge h)
      grind
     ·rw[G L l]at t
      exact R.may g (.inr ⟨L,k,u,t,c⟩)
   ·obtain⟨O,T⟩:=Q.rel.old b (mh hbZ R.ge) fun h=>by
     grind
    obtain⟨m3Z,x⟩:=R.old b hbZ hMZ
    grind
  rw[<-r]at hs;cases dst with
  |none=>cases hs;exact hKZ _ _ ⟨Fr',β',RmZ,hlZ.trans Q.le⟩
  |some d=>
   dsimp only at hs;have z:=RmZ.put (hdZ d rfl) Q.rd;have F:d<a.tmps.size:=by rw[R.nt];exact hdZ d rfl
   split at hs
   ·rename_i x
    cases hs;obtain⟨H,M⟩:=Q.own x;refine hKZ _ _ ⟨Fr',β',z.uJ (d:=d) (by grind [Nk]) (by simp[St.put,Ae]) H fun g c=>?_,hlZ.trans Q.le⟩;obtain⟨O,T,m3Z⟩:=M g c;refine⟨O.elim (fun h=>.inl (Xf R.ge h)) (fun h=>Y g h),T,fun L y U u t=>?_⟩;obtain⟨n1,n2⟩:=Jl.1 y
    grind [Yl]
   ·cases hs
    exact hKZ _ _ ⟨Fr',β',z,hlZ.trans Q.le⟩
def Nx{Γ}(l:xc P Γ cf){S}{dst}{f}{args}{vs}(hs:Lc cf st dst f args=some st')(y:∀d,dst=some d->d<S.nt)
 (R:Rel P S.T S.base S.M S.w0 S.F0 S.nt st a w Fr β) (z:Le S.sw S.sF S.sβ w Fr β) (c:ta w Fr β args vs) (n:Γ.G w) (q:∀g,Γ.D g->g<S.base/\¬S.M g) {K:Act->World->Prop} (x:∀a' w',Rl P S st' a' w'->K a' w'):
 Enters P f vs w fun e w'=>∃v,e=.returned v/\K (a.put dst v) w':=by
 unfold Lc at hs
 ·have j:=hs
  obtain⟨⟨k,os,bx',oc'⟩,p,hs⟩:=qm hs;have o:Lc (fun _ _ _ _=>some (k,os,bx',oc')) st dst f args=some st':=by unfold Lc;rw[p]at j;exact j
  have i:=l f args st.bx (st.ow.filter Da) k os bx' oc' p;have b:∀L,L∈st.ow.filter Da->L∈st.ow/\Da L=true:=fun L h=>by grind
  have r:∀g,se w β (st.ow.filter Da) g->S.base<=g\/S.M g:=fun g n=>R.may g (n.imp id fun⟨L,t,v,A,u⟩=>⟨L,(b L t).1,v,by grind [Oi],u⟩)
  refine(i w Fr β vs ⟨n,c,R.boxes,fun L h=>(b L h).2,fun g B C=>?_⟩).mono fun e w' h=>?_
  ·grind
  obtain⟨v,Fr',β',rfl,Q⟩:=h;exact⟨v,rfl,sX Q o y R z x⟩
theorem XX{Γ}(j:xc P Γ cf){S}{dst}{f}{args}{vs}(hs:Sc cf st dst f args=some st')(u:∀d,dst=some d->d<S.nt)
 (R:Rel P S.T S.base S.M S.w0 S.F0 S.nt st a w Fr β) (q:Le S.sw S.sF S.sβ w Fr β) (b:ta w Fr β args vs) (l:Γ.G w) (c:∀g,Γ.D g->g<S.base/\¬S.M g) {K:Act->World->Prop} (p:∀a' w',Rl P S st' a' w'->K a' w'):
 Enters P f vs w fun e w'=>∃v,e=.returned v/\K (a.put dst v) w':=by
 unfold Sc at hs;split at hs
 case isFalse=>exact Nx j hs u R q b l c p
 rename_i x;obtain⟨⟨o,os,bx',oc'⟩,B,hs⟩:=qb hs;dsimp only at hs;split at hs
 case isFalse=>exact Nx j hs u R q b l c p
 rename_i r;have i:=j f args [] [] o os bx' oc' B;refine(i w Fr [] vs ⟨l,mr args vs x b,UH w Fr,(fun L h=>by cases h),fun g _=>zp⟩).mono fun e w' h=>?_
 obtain⟨v,Fr',β',rfl,Q⟩:=h;have A:Below w.heap.size w w':=⟨Q.rel.os,Q.rel.tape,Q.rel.output,Q.rel.ge,fun k C=>(Q.rel.old k C zp).1⟩;have hf:∀g,g<w.heap.size->Fr' g=Fr g:=fun g l=>(Q.rel.old g l zp).2
 have t:Rd w' Fr' β (ed o) v:=pS _ _ (zfh o r) Q.rd;obtain⟨z,n⟩:=R.grow A hf;refine⟨v,rfl,?_⟩;cases dst with
 |none=>cases hs;exact p _ _ ⟨Fr',β,z,q.trans n⟩
 |some d=>
  dsimp only at hs;split at hs
  ·rename_i y
   cases hs;obtain⟨D,E⟩:=Q.own y;exact p _ _ ⟨Fr',β,R.Ic A hf (u d rfl) t D (fun g l=>((E g l).1).resolve_right zp),q.trans n⟩
  ·cases hs
   exact p _ _ ⟨Fr',β,z.put (u d rfl) t,q.trans n⟩
def zbx{l}{o}{b j}(h:b≠l):(w.putObj l o).cell? ⟨b,j,none⟩=w.cell? ⟨b,j,none⟩:=by
 grind [World.cell?,World.putObj_heap_other]
def Rel.gI(R:Rel P T base M w0 F0 nt st a w Fr β){b g}{f k f' k'}{s s'}{live live'}{A snap'}{r'}{S}(N:st.bx[b]?=some (S,[.lp f k s live A]))(F:β[b]?=some g)
 (h:Le w Fr β (w.putObj g (.loop r')) Fr β->Pr P (w.putObj g (.loop r')) Fr β f' k' s' live' snap' g):
 Rel P T base M w0 F0 nt {st with bx:=st.bx.set b (0,[.lp f' k' s' live' snap'])} a (w.putObj g (.loop r')) Fr β/\Le w Fr β (w.putObj g (.loop r')) Fr β:=by
 have y:g∈β:=nh F;obtain⟨Y,K,hF,E⟩:=R.bx.2 b _ N;rw[F]at K;cases K;have G:∃r,w.heap[g]?=some (.loop r):=by
  rcases E with⟨vs,e,_,O,_,_⟩|⟨_,_,_,_,_,_,r,D,_⟩
  ·grind [ta,Rd]
  ·grind
 have d:∀k,k≠g->(w.putObj g (.loop r')).heap[k]?=w.heap[k]?:=fun k l=>World.putObj_heap_other l
 have z:Le w Fr β (w.putObj g (.loop r')) Fr β:=⟨ea,fun _ _=>Aa _,fun k j l hjZ=>zbx fun e=>by grind,fun _ _ h=>h,fun k x l=>by
  grind [World.putObj_heap_same]⟩
 have n:∀L v,Ga a w β L=some v->Ga a (w.putObj g (.loop r')) β L=some v:=fun L v V=>by
  cases L<;>grind [Ga,World.cell?]
 have H:∀L∈st.ow,∀v,Ga a w β L=some v->∀p,bb st L=some p->bb {st with bx:=st.bx.set b (0,[.lp f' k' s' live' snap'])} L=some p:=fun L _ v V p hpZ=>by
  cases L<;>grind [Ga,World.cell?,bb]
 refine⟨R.next z (fun i=>(R.sl i).mono z) R.nt rfl ⟨by simp[R.bx.1],fun J C c=>?_⟩ R.nd (fun g h=>.inl h) some (fun L B=>?_) (fun L _ Q _ o X h Z=>o na) (fun L _ Q _ _ h=>by cases h) (fun q U=>n _ _ (R.al q U)) (fun k _ l _=>⟨d k fun e=>l (e▸y),rfl⟩) rfl rfl rfl,z⟩
 ·by_cases O:J=b
  ·subst O
   rw[Tg (qg N).1]at c;cases c;exact⟨g,F,hF,.inr ⟨_,_,_,_,_,rfl,h z⟩⟩
  ·rw[WA (Yf O)]at c
   obtain⟨D,t,W,I⟩:=R.bx.2 J C c;have o:D≠g:=fun e=>by
    grind [List.getElem?_inj,nd]
   exact⟨D,t,W,I.kept z (d D o)⟩
 ·obtain⟨u,q,t,I,D⟩:=R.own L B
  refine⟨u,q,n L u t,H L B u t q I,D.kept fun k l=>⟨d k fun e=>?_,rfl⟩,fun k l=>.inr ⟨L,B,rfl,u,t,l⟩⟩;exact R.out L B u k t l (e▸y)
def Rel.zeU{D}{l:List Nat}(R:Rel P T base M w0 F0 nt st a w Fr β)(Y:a.defers=mark D::(l.map mark++T)):
 w.heap[D]?=some (.deferred (some []))/\Rel P T base M w0 F0 nt st {a with defers:=l.map mark++T} (w.putObj D (.deferred none)) Fr β/\Le w Fr β (w.putObj D (.deferred none)) Fr β:=by
 obtain⟨N,U,I,A⟩:=R.df;rw[Y]at I;obtain rfl:D::l=N:=QG I;obtain⟨B,u⟩:∃B,l.map mark++T=B:=⟨_,rfl⟩;rw[u];have e2:=u.symm
 ·obtain⟨hbD,V⟩:=A D ea
  have c:∀k,k≠D->(w.putObj D (.deferred none)).heap[k]?=w.heap[k]?:=fun k E=>World.putObj_heap_other E
  have H:∀g∈β,g≠D:=fun g r e=>by
   obtain⟨o,J,y⟩:=R.bx.at r
   grind
  have Ub:∀g j,(w.putObj D (.deferred none)).cell? ⟨g,j,none⟩=w.cell? ⟨g,j,none⟩:=fun g j=>by
   grind [World.cell?,World.putObj_heap_same]
  have F:Le w Fr β (w.putObj D (.deferred none)) Fr β:=⟨ea,fun _ _=>Aa _,fun k j _ _=>Ub k j,fun _ _ h=>h,fun k x E=>⟨x,(c k fun e=>by grind).trans E⟩⟩;have d:∀L,Ga {a with defers:=B} (w.putObj D (.deferred none)) β L=Ga a w β L:=fun L=>by
   cases L<;>grind [Ga]
  refine⟨V,⟨fun i=>(R.sl i).mono F,R.nt,⟨l,(List.nodup_cons.1 U).2,e2,fun z W=>⟨(A z na).1,(c z fun e=>?_).trans (A z na).2⟩⟩,R.bx.kept F fun g r=>⟨c g (H g r),rfl⟩,R.nd,fun L t=>?_,fun L t O C G v v'Z g=>by rw[d,d];exact R.sep L t O C G v v'Z g,fun L t v g=>by rw[d];exact R.out L t v g,fun q hqZ=>by rw[d];exact R.al q hqZ,
   fun g r=>R.may g (r.imp id fun⟨L,t,v,J,y⟩=>⟨L,t,v,na,y⟩),fun b Z X=>?_,by simpa using R.ge,R.os,R.tape,R.output⟩,F⟩
  ·grind
  ·obtain⟨v,p,J,y,K⟩:=R.own L t
   refine⟨v,p,na,y,K.kept fun g r=>⟨c g fun e=>?_,rfl⟩⟩;obtain⟨n,cs,_,k4Z⟩:=K;rcases k4Z with rfl|⟨g'Z,Q,S,e'Z,szZ,rfl,k5Z,_⟩
   ·cases r
   ·cases r<;>grind
  ·rw[c b aa];exact R.old b Z X
end
def YC(P:Program)(ali:List Nat)(o:Oper):Option Ea:=match o.dst,o.op with
 |some d,.move (.tmp s)=>if d∈ali then some (.mvA s)else none
 |some d,.load t x=>if d∈ali/\Me P t=some false/\Rg P t=some 1 then(yb x).map .loadA else none
 |_,_=>none
def RG(P:Program)(name:String):List (Nat×Nat):=(List.range P.types.size).filterMap fun t=>
 (P.info? t).bind fun i=>(i.methods.find? (·.name==name)).bind fun m=>match m.func,P.underlying t with
   |some (f,false),some d=>(match d with| .pointer _=>none|_=>if m.path=#[]then some (2* t+1,f)else none)
   |_,_=>none
def C9{P:Program}{name}{k f}(h:(RG P name).lookup k=some f):∃t,k=2* t+1/\∀(v:Value)(w:World),(method (P.types.size+Made.depth) t v name).run P w=.ok (f,v) w:=by
 obtain⟨p,q,h,_⟩:=List.lookup_eq_some_iff.1 h;have a:(k,f)∈RG P name:=by rw[h];simp
 obtain⟨t,ht,a⟩:=Bw.1 a;obtain⟨i,j,a⟩:=qb a;obtain⟨m,b,a⟩:=qb a;split at a
 ·rename_i g d hf o
  split at a
  ·cases a
  ·rename_i c
   split at a
   ·rename_i l
    cases a;refine⟨t,rfl,fun v w=>?_⟩;have e:=Ri.1 ht;obtain⟨n,e⟩:∃n,P.types.size+Made.depth=n+1:=⟨P.types.size+Made.depth - 1,aa⟩;rw[e,method];simp only[Go.typeInfo,Qb,run_program,Rb,j,Lh,b,l,follow,hf,receiverAt,run_underlying o];cases d<;>first|rfl|exact absurd rfl (c _)
   ·cases a
 ·cases a
def fs(P:Program):Op->Option Ea
 | .call {callee:=.invoke x m,args,.. }=>(yb x).bind fun x=>(Ro args).map fun xs=>.calli (RG P m) x xs
 | .call {callee:=.value (.func f),args,.. }=>if f=kb then none else(Ro args).map fun xs=>.call f xs
 | .call {callee:=.value (.tmp t),args,.. }=>(Ro args).map fun xs=>.callv (.t t) xs
 |_=>none
def XU:Ea:=.Um (.c .Hd)
def Xx(P:Program)(ali:List Nat)(o:Oper):Option Ea:=match YC P ali o with
 |some c=>some c
 |none=>match cg P o.op with
  |some c=>some c
  |none=>match gs P o.op with
   |some c=>some c
   |none=>match fs P o.op with
    |some c=>some c
    |none=>some XU
def Wx(ops:Array Oper):Option (Nat×Bool)->Option (Option (Nat×Bool))
 |none=>some none
 |some (j,a)=>((ops[j]?).bind (·.dst)).map fun s=>some (s,a)
def Jk(P:Program)(nt:Nat)(ops:Array Oper)(ali:List Nat)(o:Oper):Option Wa:=
 if o.dst.all (·<nt)then(Xx P ali o).bind fun c=>(Wx ops o.guard).map fun g=>⟨o.dst,g,c⟩else none
section
variable {P:Program} {w w':World} {r:Option Nat} {Fr Fr':Nat→Nat} {β β':List Nat} {T:List Deferred} {base nt:Nat} {M:Nat→Prop} {w0:World} {F0:Nat→Nat} {st st':St} {a a':Act} {cf:Callee} {Γ:lf} {S:S0}
structure Good (Γ:lf) (S:S0):Prop where
 g:Γ.G S.w0
 Nj:∀ g,Γ.D g→g<S.base∧¬ S.M g
def Good.at(h:Good Γ S)(R:Rel P S.T S.base S.M S.w0 S.F0 S.nt st a w Fr β):Γ.G w:=Γ.Ye _ _ h.g fun g b=>(R.old g (h.Nj g b).1 (h.Nj g b).2).1
theorem e9{o:Oper}{t}{x}{y}(I:o.op=.load t x)(F:Me P t=some false)(H:Rg P t=some 1)(J:yb x=some y)(hs:oa cf st o.dst (.loadA y)=some st')(E:∀d,o.dst=some d->d<S.nt)(hr:Rl P S st a w){K}{Q}
 (D:∀a' w',Rl P S st' a' w'->K a' w'):o.wpIn (fw r) 0 P a w K Q:=by
 obtain⟨Fr,β,R,G⟩:=hr;obtain⟨d,c,k⟩:=qb hs;have l:=cc R.sl J;split at k
 ·rename_i b g e1
  rw[e1]at l;obtain⟨gb,n,l⟩:=l;obtain⟨p,q,rfl⟩:=qm k;obtain⟨cs,h,q⟩:=qb q;obtain⟨h,_,T,vs,e,z,A,B,N,O,_⟩:=R.bx.cells h;rw[n]at z;cases z;obtain⟨v,L,M⟩:=B.get g p q;have Ub:w.cell? ⟨gb,g,none⟩=some v:=by
   rw[cell_of_row _ _ _ _ _ _ A];simpa using L
  have i:(execOp a.eval o).run P w=.ok (.value v) w:=by
   have C:=pA (vs:=[v]) F H rfl (w:=w) (b:=gb) (o:=g) (fun j u U=>by
    grind) (.inr rfl)
   unfold execOp;rw[I];show(do pure (Next.value (<-Instr.loadAt t (a.eval x))):Sem Next).run P w=_;simp only[Instr.loadAt,Qb,l,Instr.sureAddr,Lh,Rb,C];rfl
  refine Ih i ?_;rw[c];refine D _ _ ⟨Fr,β,R.zT (E d c) M rfl ?_,G⟩
  grind [Ga]
 grind
theorem f9{o:Oper}{t}{x}{y}(hoZ:o.op=.load t x)(J:Me P t=some false)(hnZ:Rg P t=some 1)(hyZ:yb x=some y)(hs:oa cf st o.dst (.loadM y)=some st')(hdZ:∀d,o.dst=some d->d<S.nt)(hr:Rl P S st a w){K}{Q}
 (Z:∀a' w',Rl P S st' a' w'->K a' w'):o.wpIn (fw r) 0 P a w K Q:=by
 obtain⟨Fr,β,R,hlZ⟩:=hr;obtain⟨d,A,c⟩:=qb hs;have I:=cc R.sl hyZ;split at c
 case h_2=>cases c
 rename_i b l e1;rw[e1]at I;obtain⟨gb,F,I⟩:=I;obtain⟨p,H,c⟩:=qb c;split at c
 case isFalse=>cases c
 rename_i k;cases c;obtain⟨cs,B,H⟩:=qb H;obtain⟨B,_,g'Z,vs,e,N,X,Y,b4Z,b5Z,_⟩:=R.bx.cells B;rw[F]at N;cases N;obtain⟨v,k1Z,k2Z⟩:=Y.get l p H;have Ub:w.cell? ⟨gb,l,none⟩=some v:=by
  rw[cell_of_row _ _ _ _ _ _ X];simpa using k1Z
 have G:(execOp a.eval o).run P w=.ok (.value v) w:=by
  have V:=pA (vs:=[v]) J hnZ rfl (w:=w) (b:=gb) (o:=l) (fun j u hjZ=>by
   grind) (.inr rfl)
  unfold execOp;rw[hoZ];show(do pure (Next.value (<-Instr.loadAt t (a.eval x))):Sem Next).run P w=_;simp only[Instr.loadAt,Qb,I,Instr.sureAddr,Lh,Rb,V];rfl
 refine Ih G ?_;rw[A];have E:=hdZ d A;have D:d<a.tmps.size:=by rw[R.nt];exact E
 have i:=R.put E (d:=d) k2Z;have z:Ga a w β (.cell b l)=some v:=by simp only[Ga,F,Ja];exact Ub
 have M:∀L,L∈Va d st.ow->Ga (a.put (some d) v) w β L=Ga a w β L:=fun L n=>Yl D (Jl.1 n).2
 have W:Rel P S.T S.base S.M S.w0 S.F0 S.nt {(st.put d p)with ow:=(Va d st.ow).filter (·≠.cell b l),al:=[]} (a.put (some d) v) w Fr β:=
  ⟨i.sl,i.nt,i.df,i.bx,i.nd,fun L n=>i.own L (Yc.1 n).1,fun L n V j=>i.sep L (Yc.1 n).1 V (Yc.1 j).1,fun L n=>i.out L (Yc.1 n).1,(fun q hqZ=>by cases hqZ),fun g J=>i.may g (J.imp id fun⟨L,n,h⟩=>⟨L,(Yc.1 n).1,h⟩),i.old,i.ge,i.os,i.tape,i.output⟩
 obtain⟨v'Z,p'Z,T,U,m3Z⟩:=R.own _ k;rw[z]at T;cases T;simp only[bb,B,Ja,H,Wb]at U;subst U;refine Z _ _ ⟨Fr,β,W.uJ (d:=d) (by rw[Nk a d v d D,if_pos rfl]) (by simp[St.put,Ae]) m3Z fun g C=>?_,hlZ⟩;refine⟨R.may g (.inr ⟨_,k,_,z,C⟩),R.out _ k _ g z C,fun L n hne u O e=>?_⟩;obtain⟨n1,n2⟩:=Yc.1 n;have n3:L≠.cell b l:=by simpa using n2
 rw[M L n1]at O;exact R.sep _ k L (Jl.1 n1).1 (Yf n3) _ u g z O C e
theorem F9{o:Oper}{s:Nat}(j:o.op=.move (.tmp s))(hs:oa cf st o.dst (.mvA s)=some st')(h:∀d,o.dst=some d->d<S.nt)(hr:Rl P S st a w){K}{Q}
 (g:∀a' w',Rl P S st' a' w'->K a' w'):o.wpIn (fw r) 0 P a w K Q:=by
 obtain⟨Fr,β,R,i⟩:=hr;obtain⟨d,b,c⟩:=qb hs;split at c
 ·cases c
 ·cases c
  have e:(execOp a.eval o).run P w=.ok (.value (a.tmps.getD s undef)) w:=by
   unfold execOp;rw[j];rfl
  refine Ih e ?_;rw[b];exact g _ _ ⟨Fr,β,R.zT (h d b) (R.sl s) (by grind [Vd]) rfl,i⟩
def rY{a:Act}{sl}(h:∀i,Rd w Fr β (look sl i) (a.tmps.getD i undef)){l}{ys}(b:Ro l=some ys):ta w Fr β (ys.map (·.ev sl)) (l.map a.eval).toList:=by
 rw[Array.toList_map];exact Zx h b
theorem KJ:∀{ys:List X}{sl}{vs},ta w Fr β (ys.map (·.ev sl)) vs->ta w Fr β (ys.map fun x=>(x.ev sl).jb) vs
 |[],_,_,h=>h
 |y::ys,sl,vs,h=>by
  obtain⟨v,r,a,b,c⟩:=h;exact⟨v,r,a,Rd.jb _ _ b,KJ c⟩
def pu{a:Act}{sl}(h:∀i,Rd w Fr β (look sl i) (a.tmps.getD i undef)){l}{ys}(b:Ro l=some ys):ta w Fr β (ys.map fun x=>(x.ev sl).jb) (l.map a.eval).toList:=KJ (rY h b)
theorem YX(H:xc P Γ cf)(J:Good Γ S){o:Oper}{c}(j:fs P o.op=some c)(hs:oa cf st o.dst c=some st')(L:∀d,o.dst=some d->d<S.nt)(hr:Rl P S st a w){K}{Q}
 (N:∀a' w',Rl P S st' a' w'->K a' w'):o.wpIn (fw r) 0 P a w K Q:=by
 obtain⟨Fr,β,R,O⟩:=hr;obtain⟨dst,op,ty,D,i,guard⟩:=o;have fin:∀(f:FuncId)(args:List PV)(vs:List Value),f≠kb->Sc cf st dst f args=some st'->ta w Fr β args vs->(execOp a.eval ⟨dst,op,ty,D,i,guard⟩).run P w=(callFunc f vs.toArray).run P w->Oper.wpIn (fw r) 0 P ⟨dst,op,ty,D,i,guard⟩ a w K Q:=fun f args vs q G I M=>by
  have B:=XX H G L R O I (J.at R) J.Nj N;unfold Enters at B;rw[if_neg q]at B;obtain⟨v,u⟩:=B;have y:(execOp a.eval ⟨dst,op,ty,D,i,guard⟩).run P w=.ok (.enter f vs.toArray) w:=by rw[M,GD v]
  refine⟨fun _ _=>trivial,?_⟩;rw[Oper.semAt_eq _ _ _ fun c j=>by obtain⟨d,L⟩:=AD j y;cases L];rw[y];refine⟨(fun h=>by cases h),PP.2 (u.mono fun e w' h=>?_)⟩
  grind
 cases op with
 |call cl=>
  obtain⟨callee,args,u⟩:=cl;cases callee with
  |invoke x m=>
   simp only[fs]at j;obtain⟨W,E,j⟩:=qb j;obtain⟨xs,F,rfl⟩:=qm j;simp only[oa]at hs;split at hs
   ·rename_i k p e1
    obtain⟨f,hf,z⟩:=qb hs;clear hs;split at z
    ·cases z
    rename_i q;have y:=cc R.sl E;rw[e1]at y;obtain⟨vs,V,v,r,rfl,G,I⟩:=y;obtain⟨t,rfl,A⟩:=C9 hf;refine fin f _ (v::(args.map a.eval).toList) q z ⟨_,_,rfl,Rd.jb _ _ G,pu R.sl F⟩ ?_;have e1:∀n:Nat,(2* n+1)/2=n/\¬(2* n+1) % 2=0:=fun n=>by omega
    have C:a.eval x=.iface t v:=by rw[V,jo,if_neg (e1 t).2,(e1 t).1];rfl
    show(do let d <-resolve a.eval ⟨.invoke x m,args,u⟩ ty;invoke d.target d.args:Sem Next).run P w=_;simp only[resolve,C,Qb,Lh,Rb,invoke];have T:(#[Value.iface t v]++args.map a.eval)[0]?=some (Value.iface t v):=by rw[Array.getElem?_append_left Nat.zero_lt_one];rfl
    have U:(#[Value.iface t v]++args.map a.eval).extract 1 (#[Value.iface t v]++args.map a.eval).size=args.map a.eval:=by
     apply qi;rw[Array.toList_extract,Array.toList_append,Array.size_append];simp only[List.extract,Ha,Ra,Zl,yf];rw[uk];simp
    simp only[T,U,callMethod,Qb,run_program,Rb,A];congr 2;apply qi;simp
   ·cases hs
  |builtin b=>cases j
  |value f=>
   cases f with
   |const v=>cases j
   |global g=>cases j
   |func f=>
    simp only[fs]at j;split at j
    ·cases j
    rename_i q;obtain⟨xs,y,rfl⟩:=qm j;refine fin f _ (args.map a.eval).toList q hs (pu R.sl y) ?_;show(do let d <-resolve a.eval ⟨.value (.func f),args,u⟩ ty;invoke d.target d.args:Sem Next).run P w=_;simp only[resolve,Deferred.ofValue,Act.eval,Qb,Lh,Rb,invoke];congr 2;apply qi;simp
   |tmp t=>
    obtain⟨xs,y,rfl⟩:=qm j;simp only[oa]at hs;split at hs
    ·rename_i f fb e1
     split at hs
     ·cases hs
     rename_i q;have hf:=R.sl t;have A:look st.sl t=.ib f fb:=e1;rw[A]at hf;obtain⟨z,C,F⟩:=hf;refine fin f _ ((args.map a.eval).toList++z) q hs ((pu R.sl y).append F) ?_;show(do let d <-resolve a.eval ⟨.value (.tmp t),args,u⟩ ty;invoke d.target d.args:Sem Next).run P w=_;have:a.eval (.tmp t)=.func (.func f) #[] z.toArray:=C;simp only[resolve,this,Deferred.ofValue,Qb,Lh,Rb,invoke];congr 2;simp
    ·rename_i k fb e1
     split at hs
     ·rename_i E
      have hf:=R.sl t;have A:look st.sl t=.tag k fb:=e1;rw[A]at hf;obtain⟨z,C,F⟩:=hf;refine fin (k/2) _ (z++(args.map a.eval).toList) E.2 hs (F.append (pu R.sl y)) ?_;show(do let d <-resolve a.eval ⟨.value (.tmp t),args,u⟩ ty;invoke d.target d.args:Sem Next).run P w=_;have:a.eval (.tmp t)=.func (.func (k/2)) z.toArray #[]:=by rw[show a.eval (.tmp t)=_ from C,jo,if_pos E.1]
      simp only[resolve,this,Deferred.ofValue,Qb,Lh,Rb,invoke];congr 2;apply qi;simp
     ·cases hs
    ·rename_i b e1
     have hf:=R.sl t;have A:look st.sl t=.Sa b:=e1;rw[A]at hf;have U:=hf;obtain⟨g,V,C⟩:=hf;have E:ta w Fr β (.Sa b::xs.map fun x=>(x.ev st.sl).jb) (.func (.yield g) #[] #[]::(args.map a.eval).toList):=by
      simp only[ta];exact⟨_,_,rfl,na,pu R.sl y⟩
     have B:=Nx H hs L R O E (J.at R) J.Nj N;obtain⟨l,az,rc,G,I,M,T⟩:=B;cases G;have y:(execOp a.eval ⟨dst,.call ⟨.value (.tmp t),args,u⟩,ty,D,i,guard⟩).run P w=.ok (.round g rc.fn ((rc.params.zip (args.map a.eval).toList.toArray).foldl (fun tmps(t,a)=>tmps.setIfInBounds t a) rc.tmps) rc.assign rc.body) w:=by
      rw[<-run_yield I aa];show(do let d <-resolve a.eval ⟨.value (.tmp t),args,u⟩ ty;invoke d.target d.args:Sem Next).run P w=_;have:a.eval (.tmp t)=.func (.yield g) #[] #[]:=C;simp only[resolve,this,Deferred.ofValue,Qb,Lh,Rb,invoke];congr 2;apply qi;simp
     refine⟨fun _ _=>trivial,?_⟩;rw[Oper.semAt_eq _ _ _ fun c j=>by grind];rw[y];refine⟨(fun h=>by cases h),RoundIn.mono (R:=fun e w'=>∃v,e=.returned v/\K (a.put dst v) w') T fun e w' h=>?_⟩
     grind
    grind
 |_=>cases j
theorem M_(e:xc P Γ cf)(h:Good Γ S){ali}{o}{c}(b:Xx P ali o=some c)(hs:oa cf st o.dst c=some st')(i:∀d,o.dst=some d->d<S.nt)(hr:Rl P S st a w){K}{Q}
 (g:∀a' w',Rl P S st' a' w'->K a' w'):o.wpIn (fw r) 0 P a w K Q:=by
 unfold Xx at b;split at b
 ·grind [YC,F9,Option.map_eq_some_iff,e9]
 ·split at b
  ·grind [CU]
  ·split at b
   ·grind [A9]
   ·split at b
    ·grind [YX]
    ·cases b;simp[oa,XU,cb,X.ev]at hs
def pE{ops}{o}{g}{b}(i:Wx ops o.guard=some g)(d:xh st g=some b)(hr:Rl P S st a w):Region.wanted o (yielded ops a.tmps)=b:=by
 obtain⟨Fr,β,R,l⟩:=hr;unfold Wx at i;unfold Region.wanted;split at i
 ·rename_i e;cases i;rw[e];cases d;rfl
 ·rename_i j k e
  rw[e];obtain⟨s,hs,rfl⟩:=qm i;dsimp only;have c:=R.sl s;unfold xh at d;dsimp only at d;have n:yielded ops a.tmps j=match a.tmps[s]? with|some (.bool b)=>some b|_=>none:=by
   unfold yielded;rw[hs];rfl
  split at d
  ·rename_i t e1
   cases d;rw[e1]at c;obtain⟨c,_⟩:=Oc c;have:a.tmps[s]?=some (.bool t):=by
    rw[po]at c;cases h:a.tmps[s]? with
    |none=>rw[h]at c;cases c
    |some u=>grind
   grind
  ·rename_i e1
   cases d;rw[e1]at c;simp only[Rd,ta]at c;rw[po]at c
   grind
  grind
theorem bT(q:xc P Γ cf)(v:Good Γ S){ops}{ali}{o}{c}(e:Jk P S.nt ops ali o=some c)(hs:stepG cf st c=some st')(hr:Rl P S st a w){K}{Q}
 (n:∀a' w',Rl P S st' a' w'->K a' w'):if Region.wanted o (yielded ops a.tmps)then o.wpIn (fw r) 0 P a w K Q else(∀f,o.about P w a.eval=some f->(fw r).fn f)/\K (a.put o.dst undef) w:=by
 unfold Jk at e;split at e
 case isFalse=>cases e
 obtain⟨t,u,e⟩:=qb e;obtain⟨g,l,rfl⟩:=qm e;obtain⟨b,p,hs⟩:=qb hs;rw[pE l p hr];have j:∀d,o.dst=some d->d<S.nt:=fun d h=>by grind
 cases b with
 |true=>grind [M_]
 |false=>
  cases hs;obtain⟨Fr,β,R,k⟩:=hr;refine⟨fun _ _=>trivial,n _ _ ?_⟩;cases i:o.dst with
  |none=>exact⟨Fr,β,R,k⟩
  |some d=>exact⟨Fr,β,R.put (j d i) (by exact⟨[],rfl,rfl⟩),k⟩
def zq(o:Oper)(c:Wa):Wa:=match o.op with
 | .assign x=>(match yb x with|some y=>{c with op:=.mv y}|none=>c)
 |_=>c
def xo(P:Program)(nt:Nat)(ops:Array Oper)(ali:List Nat)(o:Oper)(c:Wa):Prop:=
 Jk P nt ops ali o=some c\/(∃y,c.op=.loadM y/\Jk P nt ops ali o=some {c with op:=.loadA y})\/∃x y,o.op=.assign x/\yb x=some y/\c.op=.mv y/\c.dst=o.dst/\Wx ops o.guard=some c.g/\o.dst.all (·<nt)=true
theorem x0{nt}{ops}{ali}{o}{c}(h:Jk P nt ops ali o=some c):xo P nt ops ali o (zq o c):=by
 unfold zq;split
 ·split
  ·right
   grind [Jk,Option.bind_eq_some_iff,Option.map_eq_some_iff]
  ·exact .inl h
 ·exact .inl h
theorem qY{op}{y}(a:gs P op=some (.loadA y)):False:=by
 unfold gs at a;split at a<;>grind [Option.map_eq_some_iff,Option.bind_eq_some_iff]
theorem pY{op}{y}(a:fs P op=some (.loadA y)):False:=by
 unfold fs at a;split at a<;>grind [Option.map_eq_some_iff,Option.bind_eq_some_iff]
theorem Zz(A:xc P Γ cf)(C:Good Γ S){ops}{ali}{o}{c}(j:xo P S.nt ops ali o c)(hs:stepG cf st c=some st')(hr:Rl P S st a w){K}{Q}
 (u:∀a' w',Rl P S st' a' w'->K a' w'):if Region.wanted o (yielded ops a.tmps)then o.wpIn (fw r) 0 P a w K Q else(∀f,o.about P w a.eval=some f->(fw r).fn f)/\K (a.put o.dst undef) w:=by
 rcases j with j|⟨y,B,j⟩|⟨x,y,B,p,v,l,q,F⟩
 ·exact bT A C j hs hr u
 ·obtain⟨dst,E,op⟩:=c
  unfold Jk at j;split at j
  case isFalse=>cases j
  obtain⟨D,p,j⟩:=qb j;obtain⟨g,v,j⟩:=qm j;simp only[Wa.mk.injEq]at j;obtain⟨rfl,rfl,rfl⟩:=j;obtain⟨b,z,hs⟩:=qb hs;rw[pE v z hr];have k:∀d,o.dst=some d->d<S.nt:=fun d h=>by grind
  cases b with
  |true=>
   unfold Xx at p;split at p
   ·grind [YC,Option.map_eq_some_iff,f9]
   ·exact absurd p (by
     split
     ·rename_i c' l
      intro e;cases e;rcases yN l with⟨x,t⟩|⟨x,t⟩|t
      ·rw[t]at l;obtain⟨_,_,q⟩:=qm l;cases q
      ·rw[t]at l;obtain⟨_,_,q⟩:=qm l;cases q
      ·cases t
     ·split
      ·grind [qY]
      ·split
       ·grind [pY]
       ·intro e;cases e)
  |false=>
   cases hs;obtain⟨Fr,β,R,n⟩:=hr;refine⟨fun _ _=>trivial,u _ _ ?_⟩;cases i:o.dst with
   |none=>exact⟨Fr,β,R,n⟩
   |some d=>exact⟨Fr,β,R.put (k d i) (by exact⟨[],rfl,rfl⟩),n⟩
 obtain⟨dst,g,op⟩:=c;subst v;subst l;obtain⟨b,z,hs⟩:=qb hs;rw[pE q z hr];have k:∀d,o.dst=some d->d<S.nt:=fun d h=>by grind
 obtain⟨Fr,β,R,n⟩:=hr;cases b with
 |true=>
  simp only[if_true,oa,cb,fd,Wb]at hs⊢;subst hs;have t:(execOp a.eval o).run P w=.ok (.value (a.eval x)) w:=by
   unfold execOp;rw[B];rfl
  refine Ih t (u _ _ ?_);cases i:o.dst with
  |none=>exact⟨Fr,β,R,n⟩
  |some d=>exact⟨Fr,β,R.put (k d i) (cc R.sl p),n⟩
 |false=>
  cases hs;refine⟨fun _ _=>trivial,u _ _ ?_⟩;cases i:o.dst with
  |none=>exact⟨Fr,β,R,n⟩
  |some d=>exact⟨Fr,β,R.put (k d i) (by exact⟨[],rfl,rfl⟩),n⟩
theorem oU(b:xc P Γ cf)(i:Good Γ S){ops}{ali}{Q}{rest}:∀(l)(k)(st)(a)(w),
 (∀j c,l[j]?=some c->∃o,ops[k+j]?=some o/\Jk P S.nt ops ali o=some c)->Hc cf l st=some st'->Rl P S st a w->(∀a' w',Rl P S st' a' w'->wpOpsIn (fw r) 0 P ops Q rest a' w')->wpOpsIn (fw r) 0 P ops Q (List.range' k l.length++rest) a w
 |[],k,st,a,w,_,h,hr,g=>by
  grind [Hc]
 |c::l,k,st,a,w,n,h,hr,g=>by
  obtain⟨s1,q,t⟩:=qb h;obtain⟨o,p,d⟩:=n 0 c rfl;rw[pi]at p;rw[ua,List.range'_succ,Ha];unfold wpOpsIn;simp only[p];exact bT b i d q hr fun a' w' e=>oU b i l (k+1) s1 a' w' (fun j c' u=>by
   have:=n (j+1) c' na;rwa[tk,Nat.add_comm 1 j]) t e g
end
def Ea.xs:Ea->List X
 | .mv x| .asg x| .jr x| .Um x| .un _ x| .conv _ x| .b2s x| .box _ _ x| .load _ _ x| .loadA x| .loadM x| .fp _ x| .In _ _ _ x| .ext x _| .len x| .tp x=>[x]
 | .mvA s=>[.t s]
 | .pick c a b=>[c,a,b]
 | .bin _ x y| .beq _ x y| .Cn _ _ x y| .store _ x y| .Rk _ x y| .Yn _ _ x y| .Lm _ _ _ x y| .appendS x y| .idx x y| .append _ _ x y| .mm _ x y=>[x,y]
 | .alloc ..=>[]
 | .build _ ps| .mksl _ _ _ _ ps=>ps.map (·.2.2)
 | .slice _ x e d| .sliceP _ _ x e d| .sliceS x e d=>x::e.toList++d.toList
 | .call _ xs| .clos _ xs| .mkt _ xs=>xs
 | .calli _ x xs=>x::xs
 | .callv g xs=>g::xs
def X.Wl:X->List Nat
 | .t s=>[s]
 | .c _=>[]
def Wa.reads(o:Wa):List Nat:=o.op.xs.flatMap X.Wl++(match o.g with|some (s,_)=>[s]|none=>[])
def cA:Ea->Bool
 | .asg _| .loadM _| .alloc .. | .box .. | .store .. | .append .. | .appendS ..=>false
 |_=>true
def iI{c}{ρ ρ'}(h:∀x∈c.xs,ρ x=ρ' x):cb c ρ=cb c ρ':=by
 cases c
 case build zs ps=>
  have:(ps.map fun q=>(q.1,q.2.1,ρ q.2.2))=ps.map fun q=>(q.1,q.2.1,ρ' q.2.2):=rl fun q j=>by
   rw[h q.2.2 (si.2 ⟨q,j,rfl⟩)]
  grind [cb]
 case clos f xs=>
  have:xs.map ρ=xs.map ρ':=rl fun q j=>h q j
  grind [cb]
 case mkt f xs=>
  have:xs.map ρ=xs.map ρ':=rl fun q j=>h q j
  grind [cb]
 case slice n x d b=>
  have a:ρ x=ρ' x:=h x (by simp[Ea.xs]);have e:d.map ρ=d.map ρ':=by cases d<;>simp;exact h _ (by simp[Ea.xs])
  have i:b.map ρ=b.map ρ':=by cases b<;>simp;exact h _ (by simp[Ea.xs])
  simp only[cb,a,e,i]
 case sliceP len n x d b=>
  have a:ρ x=ρ' x:=h x (by simp[Ea.xs]);have e:d.map ρ=d.map ρ':=by cases d<;>simp;exact h _ (by simp[Ea.xs])
  have i:b.map ρ=b.map ρ':=by cases b<;>simp;exact h _ (by simp[Ea.xs])
  grind [cb]
 case sliceS x d b=>
  have a:ρ x=ρ' x:=h x (by simp[Ea.xs]);have e:d.map ρ=d.map ρ':=by cases d<;>simp;exact h _ (by simp[Ea.xs])
  have i:b.map ρ=b.map ρ':=by cases b<;>simp;exact h _ (by simp[Ea.xs])
  grind [cb]
 all_goals first
  |rfl
  |(rename_i x y z;have a:=h x (by simp[Ea.xs]);have e:=h y (by simp[Ea.xs]);have i:=h z (by simp[Ea.xs]);simp only[cb,a,e,i];done)
  |(rename_i x y;have a:=h x (by simp[Ea.xs]);have e:=h y (by simp[Ea.xs]);simp only[cb,a,e];done)
  |(rename_i x;have a:=h x (by simp[Ea.xs]);simp only[cb,a];done)
  |(rename_i x _;have a:=h x (by simp[Ea.xs]);simp only[cb,a];done)
  |(rename_i g _ _ x;have a:=h x (by simp[Ea.xs]);cases g<;>simp only[cb,a];done)
  |skip
structure im where
 p:PV
 own:Bool
 al:Option Loc
 nb:Oa
def Xc(st:St)(d:Nat)(e:im):St:={sl:=(d,e.p)::st.sl,ow:=(if e.own then[.slot d]else[])++Va d st.ow,al:=(match e.al with|some L=>[(d,L)]|none=>[])++Jb d st.al,bx:=st.bx++e.nb}
def makes:Ea->Bool
 | .alloc .. | .box ..=>true
 |_=>false
theorem Pl(st)(d)(p):Xc st d ⟨p,false,none,[]⟩=st.put d p:=by simp[Xc,St.put]
theorem KH(st)(d)(p):Xc st d ⟨p,true,none,[]⟩=st.Ic d p:=by simp[Xc,St.Ic]
def bW{sl a}{x:X}(h:∀s∈x.Wl,look sl s=look a s):x.ev sl=x.ev a:=by
 cases x with
 |t s=>exact h s (by simp[X.Wl])
 |c v=>rfl
theorem SD{sl a}{c:Ea}(h:∀s∈c.xs.flatMap X.Wl,look sl s=look a s):∀x∈c.xs,x.ev sl=x.ev a:=fun x b=>bW fun s hs=>h s (List.mem_flatMap.2 ⟨x,b,hs⟩)
def GR{a}{n}{p v}{bx}(z)(h:Om a n p bx=some v):Om a n p (bx++z)=some v:=by
 unfold Om at h⊢
 grind [Option.bind_eq_some_iff,KC]
theorem zbt{cf}{st st'}{o}{d}(hs:ce cf st o=some st')(A:cA o.op=true)(N:o.dst=some d):
 ∃e,st'=Xc st d e/\e.nb=[]/\(∀s,e.al=some (.slot s)->s∈o.reads)/\∀a,(∀s∈o.reads,look a.sl s=look st.sl s)->(∃z,a.bx=st.bx++z)->ce cf a o=some (Xc a d e):=by
 obtain⟨dst,g,c⟩:=o;subst N;obtain⟨b,O,v⟩:=qb hs;clear hs;have hs:=v;have H:∀a:St,(∀s∈(Wa.mk (some d) g c).reads,look a.sl s=look st.sl s)->xh a g=some b:=fun a h=>by
  grind [xh,Wa.reads]
 cases b with
 |false=>
  simp only[La,if_false,Wb]at hs;refine⟨⟨.Jc [],false,none,[]⟩,by rw[<-hs,Pl];rfl,rfl,(fun _ h=>by cases h),fun a h _=>?_⟩;unfold ce;simp only[H a h,Ja,La,if_false,Pl];rfl
 |true=>
  simp only[if_true]at hs;split at hs
  case isFalse=>cases hs
  rename_i i
  have fin:∀e:im,e.nb=[]->st'=Xc st d e->(∀s,e.al=some (.slot s)->.t s∈c.xs)->(∀a:St,(∀x∈c.xs,x.ev a.sl=x.ev st.sl)->(∃z,a.bx=st.bx++z)->ob cf a.sl c=true/\oa cf a (some d) c=some (Xc a d e))->
   ∃e:im,st'=Xc st d e/\e.nb=[]/\(∀s,e.al=some (.slot s)->s∈(Wa.mk (some d) g c).reads)/\∀a:St,(∀s∈(Wa.mk (some d) g c).reads,look a.sl s=look st.sl s)->(∃z,a.bx=st.bx++z)->ce cf a ⟨some d,g,c⟩=some (Xc a d e):=fun e l j w D=>by
   grind [Wa.reads,X.Wl,SD,ce]
  have B:ik c=true->(∀sl,ob cf sl c=true)->∃e:im,st'=Xc st d e/\e.nb=[]/\(∀s,e.al=some (.slot s)->s∈(Wa.mk (some d) g c).reads)/\∀a:St,(∀s∈(Wa.mk (some d) g c).reads,look a.sl s=look st.sl s)->(∃z,a.bx=st.bx++z)->ce cf a ⟨some d,g,c⟩=some (Xc a d e):=fun K J=>by
   rw[io K]at hs;obtain⟨p,j,rfl⟩:=qm hs;refine fin ⟨p,false,none,[]⟩ rfl (by rw[Pl];rfl) (fun _ h=>by cases h) fun a h _=>⟨J _,?_⟩
   rw[io K,iI (ρ':=(·.ev st.sl)) h,j,Pl];rfl
  have r:∀(f:FuncId)(az:List X)(cs:List PV),wj cf f ((az.map fun x=>(x.ev st.sl).jb)++cs)=true->Sc cf st (some d) f ((az.map fun x=>(x.ev st.sl).jb)++cs)=some st'->
   (∀a:St,(∀x∈c.xs,x.ev a.sl=x.ev st.sl)->ob cf a.sl c=ob cf st.sl c/\oa cf a (some d) c=Sc cf a (some d) f ((az.map fun x=>(x.ev st.sl).jb)++cs))->
   ∃e:im,st'=Xc st d e/\e.nb=[]/\(∀s,e.al=some (.slot s)->s∈(Wa.mk (some d) g c).reads)/\∀a:St,(∀s∈(Wa.mk (some d) g c).reads,look a.sl s=look st.sl s)->(∃z,a.bx=st.bx++z)->ce cf a ⟨some d,g,c⟩=some (Xc a d e):=fun f az cs w l L=>by
   unfold wj at w;simp only[bc]at w;obtain⟨I,w⟩:=w;unfold Sc at l;rw[if_pos I]at l;obtain⟨⟨C,os,bx',oc'⟩,P,Q⟩:=qb l;have e1:∀s:St,(if os then s.Ic d (ed C)else s.put d (ed C))=Xc s d ⟨ed C,os,none,[]⟩:=fun s=>by
    grind [Pl,KH]
   grind [Sc]
  cases c
  case mvA l=>
   obtain⟨w,C⟩:l≠d/\st'={(st.put d (look st.sl l))with al:=(d,.slot l)::Jb d st.al}:=by
    simp only[oa,Ja]at hs
    grind
   refine fin ⟨look st.sl l,false,some (.slot l),[]⟩ rfl (by grind [Xc,St.put]) (fun s h=>by grind [Ea.xs]) fun a h _=>⟨rfl,?_⟩
   have j:look a.sl l=look st.sl l:=h (.t l) (by simp[Ea.xs]);simp only[oa,Ja,if_neg w,j];simp[Xc,St.put]
  case mksl w n size zs ps=>
   obtain⟨cs,j,v⟩:=qb hs;split at v
   case isFalse=>cases v
   rename_i l;cases v;refine fin ⟨.ia n (zd cs),true,none,[]⟩ rfl (by rw[KH]) (fun _ h=>by cases h) fun a h _=>⟨rfl,?_⟩
   have:(ps.map fun q=>(q.1,q.2.1,q.2.2.ev a.sl))=ps.map fun q=>(q.1,q.2.1,q.2.2.ev st.sl):=rl fun q F=>by
    rw[h q.2.2 (si.2 ⟨q,F,rfl⟩)]
   simp only[oa,Ja,this,j,if_pos l,KH]
  case b2s x=>
   obtain⟨p,j,rfl⟩:=qm hs;refine fin ⟨p,false,none,[]⟩ rfl (by rw[Pl];rfl) (fun _ h=>by cases h) fun a h u=>⟨rfl,?_⟩
   obtain⟨z,E⟩:=u;have D:um (x.ev st.sl) (st.bx++z)=some p:=by
    unfold um at j⊢;split at j
    ·exact j
    ·exact j
    ·obtain⟨q,G,l⟩:=qb j
     rw[KC G];exact l
    ·cases j
   simp only[oa,h x (by simp[Ea.xs]),E,D,fd,Pl];rfl
  case load l n x=>
   obtain⟨p,j,rfl⟩:=qm hs;refine fin ⟨p,false,none,[]⟩ rfl (by rw[Pl]) (fun _ h=>by cases h) fun a h u=>⟨rfl,?_⟩
   obtain⟨z,E⟩:=u;simp only[oa,Ja,h x (by simp[Ea.xs]),E,GR z j,fd,Pl]
  case loadA x=>
   simp only[oa,Ja]at hs;split at hs
   ·rename_i b o e1
    obtain⟨p,j,rfl⟩:=qm hs;refine fin ⟨p,false,some (.cell b o),[]⟩ rfl (by simp[Xc,St.put]) (fun _ h=>by cases h) fun a h u=>⟨rfl,?_⟩
    obtain⟨z,E⟩:=u;have l:((td (st.bx++z) b).bind fun q=>q.2[o]?)=some p:=by
     obtain⟨cs,D,G⟩:=qb j;rw[KC D];exact G
    simp only[oa,Ja,h x (by simp[Ea.xs]),E,e1,l,fd];simp[Xc,St.put]
   grind
  case call f args=>
   simp only[oa]at hs;simp only[ob]at i;refine r f args [] na (by simpa using hs) fun a h=>?_
   have:(args.map fun x=>(x.ev a.sl).jb)=args.map fun x=>(x.ev st.sl).jb:=rl fun q F=>by rw[h q F]
   simp only[ob,oa,this,Sg,and_self]
  case callv C args=>
   simp only[oa]at hs;simp only[ob]at i;split at hs
   ·rename_i f fb e1
    rw[e1]at i;split at hs
    ·cases hs
    rename_i w;have l:wj cf f ((args.map fun x=>(x.ev st.sl).jb)++fb)=true:=by simp only[bc]at i;exact i.2
    refine r f args fb l hs fun a h=>?_
    have j:(args.map fun x=>(x.ev a.sl).jb)=args.map fun x=>(x.ev st.sl).jb:=rl fun q F=>by grind [Ea.xs]
    have D:C.ev a.sl=.ib f fb:=(h C (by simp[Ea.xs])).trans e1;simp only[ob,oa,j,D,e1,if_neg w,and_self]
   ·rename_i k fb e1
    rw[e1]at i;cases i
   ·grind
   ·cases hs
  case asg x=>cases A
  case calli t x az=>cases i
  case loadM x=>cases A
  case alloc M zs=>cases A
  case box M n x=>cases A
  case store n x y=>cases A
  case append n x y=>cases A
  case appendS x y=>cases A
  all_goals exact B rfl fun _=>rfl
def Kz{ps}(h:Ll ps=true)(b o):Zc b o ps=[]:=by
 induction ps generalizing o<;>grind [Ll,Zc]
def Lz{ps}(h:Ll ps=true):ps.map wk=ps:=by
 induction ps<;>grind [Ll,YI]
theorem s9{cf}{st st'}{o}{d}(hs:ce cf st o=some st')(t:makes o.op=true)(r:o.dst=some d):
 ∃e,st'=Xc st d e/\(∀s,e.al=some (.slot s)->s∈o.reads)/\∀i,(∀s∈o.reads,look i.sl s=look st.sl s)->i.bx=st.bx->ce cf i o=some (Xc i d e):=by
 obtain⟨dst,g,c⟩:=o;subst r;obtain⟨b,v,p⟩:=qb hs;clear hs;have hs:=p;have k:∀i:St,(∀s∈(Wa.mk (some d) g c).reads,look i.sl s=look st.sl s)->xh i g=some b:=fun i h=>by
  grind [xh,Wa.reads]
 cases b with
 |false=>
  simp only[La,if_false,Wb]at hs;refine⟨⟨.Jc [],false,none,[]⟩,by rw[<-hs,Pl];rfl,(fun _ h=>by cases h),fun i h _=>?_⟩;unfold ce;simp only[k i h,Ja,La,if_false,Pl];rfl
 |true=>
  simp only[if_true]at hs;split at hs
  case isFalse=>cases hs
  rename_i a;cases c
  case alloc l zs=>
   simp only[ob]at a;simp only[oa,fd,Wb,Kz a,Lz a,Ra]at hs;refine⟨⟨.ptr st.bx.length 0,false,none,[(l,zs)]⟩,by grind [Xc,St.put],(fun _ h=>by cases h),fun i h j=>?_⟩;unfold ce;simp only[k i h,Ja,if_true,ob,a,oa,fd,j,Kz a,Lz a,Ra]
   grind [Xc,St.put]
  case box l n x=>
   simp only[ob]at a;simp only[oa,Ja,Kz a,Lz a,Ra]at hs;split at hs
   case isFalse=>cases hs
   rename_i q;cases hs;refine⟨⟨.ptr st.bx.length 0,false,none,[(l,(x.ev st.sl).cells)]⟩,ra,(fun _ h=>by cases h),fun i h j=>?_⟩;have u:x.ev i.sl=x.ev st.sl:=SD (c:=.box l n x) (fun s hs=>h s (by grind [Wa.reads])) x (by simp[Ea.xs]);unfold ce;simp only[k i h,Ja,if_true,ob,a,oa,u,if_pos q,j,Kz a,Lz a,Ra]
   grind [Xc,St.put]
  all_goals cases t
def ch(ops:Array Oper)(i:Nat):List Nat:=match ops[i]? with
 |some o=>o.after.toList.filterMap fun e=>if Region.binds .any e then some e.on else none
 |none=>[]
def rx:List (List Nat)->List (List Nat)->List (List Nat)
 |acc,[]=>acc
 |acc,a::r=>rx (acc++[(a.flatMap fun j=>j::acc.getD j []).eraseDups]) r
def zl(ops:Array Oper):List (List Nat):=rx [] ((List.range ops.size).map (ch ops))
def sy(ops:Array Oper)(cs:List Wa)(k:Nat):Bool:=
 let a:=zl ops
 decide (k<=cs.length)&&
 (List.range ops.size).all (fun i=>(ch ops i).all (·<i))&&
 (List.range k).all (fun i=>match cs[i]? with
   |some o=>(cA o.op||(i+1==k&&makes o.op))&&o.dst.isSome
   |none=>true)&&
 (List.range k).all (fun i=>(List.range k).all fun j=>i==j||((cs[i]?).bind (·.dst)) !=((cs[j]?).bind (·.dst)))&&
 (List.range k).all (fun i=>match cs[i]? with
   |some o=>o.reads.all fun s=>(List.range k).all fun j=>((cs[j]?).bind (·.dst)) !=some s||(decide (j<i)&&(a.getD i []).contains j)
   |none=>true)&&
 (List.range cs.length).all (fun i=>decide (i<k)||(List.range i).all fun j=>(a.getD i []).contains j)
theorem DJ{dir}{E:Nat->Prop}(p:∀i,E i->∀j∈dir.getD i [],E j):∀(r a done),dir=done++r->a.length=done.length->
 (∀i,(∀j∈done.getD i [],E j)->∀x∈a.getD i [],E x)->∀i,(∀j∈dir.getD i [],E j)->∀x∈(rx a r).getD i [],E x
 |[],a,done,w,g,h,i,q,x,t=>by
  grind [rx]
 |v::r,a,done,w,g,h,i,q,x,t=>by
  refine DJ p r _ (done++[v]) na (by simp[g]) (fun o b u c=>?_) i q x t;by_cases fa:o<a.length
  ·exact h o na u na
  ·by_cases z:o=a.length
   ·subst z
    rw[UA,Pf (Aa _)]at c;rw[UA,g,Pf (Aa _)]at b;simp only[Nat.sub_self,ro,Option.getD_some]at c b;have k:=List.mem_eraseDups.1 c;obtain⟨j,A,l⟩:=List.mem_flatMap.1 k;have d:=b j A;rcases wb.1 l with e|n
    ·grind
    ·refine h j (fun y B=>p j d y ?_) u n
     grind
   grind
def zB{ops}{E:Nat->Prop}(b:∀i,E i->∀j∈ch ops i,E j){i}(c:i<ops.size)(h:∀j∈ch ops i,E j):∀x∈(zl ops).getD i [],E x:=by
 refine DJ (dir:=(List.range ops.size).map (ch ops)) (fun g a j d=>?_) _ [] [] rfl rfl (fun i _ x e=>by grind) i na
 grind
section
variable {P:Program} {w w':World} {r:Option Nat} {Fr Fr':Nat→Nat} {β β':List Nat} {T:List Deferred} {base nt:Nat} {M:Nat→Prop} {w0:World} {F0:Nat→Nat} {st st':St} {a a':Act} {cf:Callee} {Γ:lf} {S:S0}
def Rl.congr(h:Rl P S st a w)(k:∀i,look st'.sl i=look st.sl i)(b:∀L,L∈st'.ow->L∈st.ow)(l:∀q,q∈st'.al->q∈st.al)(n:st'.bx=st.bx):Rl P S st' a w:=by
 obtain⟨Fr,β,R,p⟩:=h;have e:∀L,bb st' L=bb st L:=fun L=>by cases L<;>simp only[bb,k,n]
 exact⟨Fr,β,⟨fun i=>by rw[k];exact R.sl i,R.nt,R.df,by grind [Rel.bx],R.nd,fun L c=>by rw[e];exact R.own L (b L c),fun L c j d=>R.sep L (b L c) j (b j d),fun L c=>R.out L (b L c),fun q r=>R.al q (l q r),
  fun g o=>R.may g (o.imp id fun⟨L,t,u⟩=>⟨L,b L t,u⟩),R.old,R.ge,R.os,R.tape,R.output⟩,p⟩
structure Sat (k:Nat) (d:Nat→Nat) (eff:Nat→im) (E:Nat→Prop) (st0 st:St):Prop where
 e1:∀ i,i<k→E i→look st.sl (d i)=(eff i).p
 e2:∀ s,(∀ i,i<k→E i→d i≠s)→look st.sl s=look st0.sl s
 e3:∀ L,L∈st.ow ↔ (∃ i,i<k∧E i∧(eff i).own=true∧L=.slot (d i))∨(L∈st0.ow∧∀ i,i<k→E i→Vd (d i) L=false)
 e4:∀ q,q∈st.al ↔ ∃ i,i<k∧E i∧(eff i).al=some q.2∧q.1=d i
 e5:(∀ i,i<k→E i→(eff i).nb=[])→st.bx=st0.bx
 e6:∀ i,i<k→E i→(eff i).nb≠[]→st.bx=st0.bx++(eff i).nb
def Sat.start{k}{d}{eff}{a}(h:a.al=[]):Sat k d eff (fun _=>False) a a:=
 ⟨fun _ _ h=>h.elim,fun _ _=>rfl,fun L=>⟨fun h=>.inr ⟨h,fun _ _ h=>h.elim⟩,fun h=>h.elim (fun⟨_,_,h,_⟩=>h.elim) (·.1)⟩,fun q=>by grind,fun _=>rfl,fun _ _ h=>h.elim⟩
def Sat.step{k}{d}{eff}{E}{t st}(h:Sat k d eff E t st)(z:∀i j,i<k->j<k->i≠j->d i≠d j){i}(w:i<k)(A:¬E i)
 (B:∀j,j<k->(eff j).nb≠[]->j+1=k) (v:∀j,j<k->E j->∀L,(eff j).al=some L->Vd (d i) L=false):Sat k d eff (fun j=>E j\/j=i) t (Xc st (d i) (eff i)):=by
 have x:∀j,j<k->E j->d j≠d i:=fun j c a=>z j i c w fun e=>A (e▸a)
 refine⟨fun j c a=>?_,fun s hs=>?_,fun L=>?_,fun q=>?_,fun o=>?_,fun j c a p=>?_⟩
 rotate_left 4
 ·have u:=h.e5 fun j c a=>o j c (.inl a)
  grind [Xc]
 ·rcases a with a|rfl
  ·have u:(eff i).nb=[]:=Gt fun y=>by
    grind
   simp only[Xc,u,Sg];exact h.e6 j c a p
  ·have u:=h.e5 fun m l a=>Gt fun y=>by
    grind
   grind [Xc]
 ·simp only[Xc,Ae]
  rcases a with a|rfl
  ·rw[if_neg (Yf (x j c a))];exact h.e1 j c a
  simp
 ·simp only[Xc,Ae]
  rw[if_neg (hs i w (.inr rfl))];exact h.e2 s fun j c a=>hs j c (.inl a)
 ·simp only[Xc,Ue,Jl]
  constructor
  ·rintro(l|⟨l,C⟩)
   ·grind
   ·rcases(h.e3 L).1 l with⟨j,g,b,n,r⟩|⟨g,b⟩<;>grind
  ·rintro(⟨j,g,b,n,r⟩|⟨g,b⟩)
   ·rcases b with b|rfl
    ·right
     refine⟨(h.e3 L).2 (.inl ⟨j,g,b,n,r⟩),?_⟩
     grind [Vd]
    grind
   ·exact .inr ⟨(h.e3 L).2 (.inr ⟨g,fun j c a=>b j c (.inl a)⟩),b i w (.inr rfl)⟩
 ·simp only[Xc,Ue,gr]
  constructor
  ·rintro(l|⟨l,C,y⟩)
   ·grind
   ·obtain⟨j,g,b,n,r⟩:=(h.e4 q).1 l
    grind
  ·rintro⟨j,g,b,n,r⟩
   rcases b with b|rfl
   ·exact .inr ⟨(h.e4 q).2 ⟨j,g,b,n,r⟩,na,v j g b _ n⟩
   grind
theorem xT:∀(l)(st stk),tg cf l st=some stk->(∀(i)(o),l[i]?=some o->(cA o.op=true\/(i+1=l.length/\makes o.op=true))/\o.dst.isSome=true)->
 ∃(c:List im)(b:List St),c.length=l.length/\b[0]?=some st/\b[l.length]?=some stk/\∀i o,l[i]?=some o->∃e s d,c[i]?=some e/\b[i]?=some s/\o.dst=some d/\b[i+1]?=some (Xc s d e)/\(∀x,e.al=some (.slot x)->x∈o.reads)/\(e.nb≠[]->i+1=l.length)/\
  ∀a,(∀x∈o.reads,look a.sl x=look s.sl x)->(∃z,a.bx=s.bx++z)->(i+1=l.length->a.bx=s.bx)->ce cf a o=some (Xc a d e)
 |[],st,stk,h,_=>by
  simp only[tg,Wb]at h;subst h;exact⟨[],[st],rfl,rfl,rfl,fun i o q=>by grind⟩
 |o::l,st,stk,h,j=>by
  obtain⟨s1,w,n⟩:=qb h;obtain⟨r,g⟩:=j 0 o ea;obtain⟨d,B⟩:=aB.1 g;obtain⟨e,e1,y,p,A⟩:∃e:im,s1=Xc st d e/\(∀x,e.al=some (.slot x)->x∈o.reads)/\(e.nb≠[]->0+1=(o::l).length)/\∀a:St,(∀x∈o.reads,look a.sl x=look st.sl x)->(∃z,a.bx=st.bx++z)->(0+1=(o::l).length->a.bx=st.bx)->ce cf a o=some (Xc a d e):=by
   grind [zbt,s9]
  obtain⟨c,b,u,C,v,D⟩:=xT l _ stk n fun i k t=>by
   obtain⟨E,F⟩:=j (i+1) k na
   grind
  refine⟨e::c,st::b,by simp[u],rfl,by simpa using v,fun i k q=>?_⟩;cases i with
  |zero=>
   simp_all
  |succ i=>
   simp_all
def zej{o}(h:ce cf st o=some st'):stepG cf st o=some st':=by
 grind [ce,Option.bind_eq_some_iff,stepG]
def Tw{ops}{Q}{K}{i}{o}(b:ops[i]?=some o)(h:if Region.wanted o (yielded ops a.tmps)then o.wpIn (fw r) 0 P a w K Q else(∀f,o.about P w a.eval=some f->(fw r).fn f)/\K (a.put o.dst undef) w):wpOpIn (fw r) 0 P ops Q i K a w:=by
 grind [wpOpIn]
theorem w1(hcf:xc P Γ cf)(hSZ:Good Γ S){ops}{ali}{cs}{k}{Q}{C stk stF}(hok:sy ops cs k=true)(hlen:cs.length=ops.size)
 (hco:∀(j:Nat)(c),cs[j]?=some c->∃o,ops[j]?=some o/\xo P S.nt ops ali o c) (hal:C.al=[]) (hpre:tg cf (cs.take k) C=some stk) (D:Hc cf (cs.drop k) stk=some stF) (hr:Rl P S C a w)
 (hKZ:∀a' w',Rl P S stF a' w'->Q .normal a' w'):wpAnyIn (fw r) 0 P .any ops Q ops.size (Array.replicate ops.size false) a w:=by
 unfold sy at hok;simp only[bc,decide_eq_true_eq,Bg,Ri,Sp,bne_iff_ne,ne_eq,beq_iff_eq]at hok;obtain⟨⟨⟨⟨⟨hkZ,hback⟩,hkind⟩,hdist⟩,hreads⟩,htl⟩:=hok;have hkl:(cs.take k).length=k:=by rw[Se];omega
 have K:∀(i:Nat)(o:Wa),(cs.take k)[i]?=some o->(cA o.op=true\/(i+1=(cs.take k).length/\makes o.op=true))/\o.dst.isSome=true:=fun i o y=>by
  grind
 obtain⟨esZ,ssZ,hel,hs0,hsk,hss⟩:=xT (cf:=cf) (cs.take k) C stk hpre K;rw[hkl]at hel hsk hss;obtain⟨d,hdZ⟩:∃d:Nat->Nat,∀(i:Nat)(c:Wa),i<k->cs[i]?=some c->c.dst=some (d i):=by
  refine⟨fun i=>((cs[i]?).bind (·.dst)).getD 0,fun i c y hcZ=>?_⟩;have t:=(K i c (show(cs.take k)[i]?=some c by grind)).2;obtain⟨x,M⟩:=aB.1 t;simp[hcZ,M]
 obtain⟨eff,heff⟩:∃eff:Nat->im,∀(i:Nat)(e:im),esZ[i]?=some e->eff i=e:=⟨fun i=>(esZ[i]?).getD ⟨.Hd,false,none,[]⟩,fun i e h=>by simp[h]⟩;have hcs:∀i:Nat,i<k->∃c,cs[i]?=some c:=fun i y=>⟨_,qe aa⟩
 have hdd:∀i j,i<k->j<k->i≠j->d i≠d j:=fun i j y p hne e=>by
  grind
 have hrd:∀(i:Nat)(c:Wa),i<k->cs[i]?=some c->∀s∈c.reads,∀j,j<k->d j=s->j<i/\j∈(zl ops).getD i []:=fun i c y hcZ s hs j p hdj=>by
  grind
 have Z:∀i:Nat,i<k->∃c s,cs[i]?=some c/\ssZ[i]?=some s/\ssZ[i+1]?=some (Xc s (d i) (eff i))/\(∀x,(eff i).al=some (.slot x)->x∈c.reads)/\((eff i).nb≠[]->i+1=k)/\
  ∀J:St,(∀x∈c.reads,look J.sl x=look s.sl x)->(∃z,J.bx=s.bx++z)->(i+1=k->J.bx=s.bx)->ce cf J c=some (Xc J (d i) (eff i)):=fun i y=>by
  obtain⟨c,hcZ⟩:=hcs i y;obtain⟨e,s,N,q1Z,q2Z,R,U,V,W,X⟩:=hss i c (by rw[Ew y];exact hcZ);have t:=hdZ i c y hcZ;simp_all
 have hnb:∀j,j<k->(eff j).nb≠[]->j+1=k:=fun j p h=>by
  obtain⟨_,_,_,_,_,_,h6Z,_⟩:=Z j p;exact h6Z h
 have halx:∀i,i<k->∀j,j<k->∀E:Nat->Prop,¬E i->E j->(∀x∈(zl ops).getD j [],E x)->∀L,(eff j).al=some L->Vd (d i) L=false:=fun i y j p E hnZ hEZ hcl L hLZ=>by
  cases L with
  |cell b o=>rfl
  |slot x=>
   simp only[Vd,beq_eq_false_iff_ne,ne_eq];intro e;obtain⟨c,s,hcZ,_,_,h5Z,_,_⟩:=Z j p;exact hnZ (hcl i (hrd j c p hcZ x (h5Z x hLZ) i y e.symm).2)
 have hsat:∀i:Nat,i<=k->∃s,ssZ[i]?=some s/\Sat k d eff (fun j=>j<i) C s:=fun i=>by
  induction i with
  |zero=>exact fun _=>⟨C,hs0,by have:=Sat.start (k:=k) (d:=d) (eff:=eff) hal;simpa using this⟩
  |succ i ihZ=>
   intro y;obtain⟨s,t,v⟩:=ihZ aa;obtain⟨c,s',hcZ,B,O,h5Z,_,_⟩:=Z i y;rw[t]at B;cases B;refine⟨_,O,?_⟩;have:=v.step hdd (i:=i) y aa hnb fun j p hEZ L hLZ=>by
    cases L with
    |cell b o=>rfl
    |slot x=>
     simp only[Vd,beq_eq_false_iff_ne,ne_eq];intro e;obtain⟨c',N,J,_,_,h6Z,_,_⟩:=Z j p;have:=(hrd j c' p J x (h6Z x hLZ) i y e.symm).1;omega
   have e:(fun j=>j<i\/j=i)=fun j=>j<i+1:=by funext j;apply propext;omega
   rw[e]at this;omega
 have A:Sat k d eff (fun j=>j<k) C stk:=by
  obtain⟨s,t,v⟩:=hsat k (Aa _);rw[hsk]at t;cases t;exact v
 have htails:∀m,k<=m->m<=ops.size->∃s,Hc cf ((cs.drop k).take (m - k)) stk=some s/\Hc cf (cs.drop m) s=some stF:=by
  have split:∀(l:List Wa)(n:Nat)(s:St),Hc cf l s=some stF->∃s',Hc cf (l.take n) s=some s'/\Hc cf (l.drop n) s'=some stF:=by
   intro l
   induction l with
   |nil=>intro n s h;exact⟨s,by simp[Hc],by simpa using h⟩
   |cons o l ihZ=>
    intro n s h;cases n with
    |zero=>exact⟨s,rfl,h⟩
    |succ n=>
     obtain⟨s1,t,v⟩:=qb h;obtain⟨s',B,O⟩:=ihZ n s1 v;exact⟨s',by simp only[Aw,Hc,t,Ja];exact B,O⟩
  intro m hmZ hm2;obtain⟨s,t,v⟩:=split (cs.drop k) (m - k) stk D;refine⟨s,t,?_⟩;rw[yd]at v;rwa[show k+(m - k)=m by omega]at v
 have F:∀(l l':List Wa)(s:St),Hc cf (l++l') s=(Hc cf l s).bind (Hc cf l'):=by
  intro l
  induction l with
  |nil=>intro l' s;rfl
  |cons o l ihZ=>
   intro l' s;simp only[Ha,Hc];cases stepG cf s o with
   |none=>rfl
   |some s1=>exact ihZ l' s1
 have T:∀m,k<=m->m<ops.size->∀s,Hc cf ((cs.drop k).take (m - k)) stk=some s->∃c s',cs[m]?=some c/\stepG cf s c=some s'/\Hc cf ((cs.drop k).take (m+1 - k)) stk=some s':=fun m hmZ hm2 s hs=>by
  obtain⟨N,t,v⟩:=htails m hmZ aa;rw[hs]at t;cases t;have J:m<cs.length:=aa
  rw[Pd J]at v;obtain⟨s',B,O⟩:=qb v;refine⟨cs[m],s',qe J,B,?_⟩;have:(cs.drop k).take (m+1 - k)=(cs.drop k).take (m - k)++[cs[m]]:=by
   rw[show m+1 - k=(m - k)+1 by omega,oo (by rw[fc];omega)];congr 2;rw[List.getElem_drop];congr 1;omega
  rw[this,F,hs];simp only[Ja,Hc,B]
 have I:∀(g:Array Bool)(i j:Nat),i<g.size->((g.setIfInBounds i true).getD j false=true ↔ (g.getD j false=true\/j=i)):=fun g i j y=>by
  by_cases h:i=j
  ·subst h;simp[y]
  ·rw[getD_set_ne false h]
   exact⟨.inl,fun h'Z=>h'Z.resolve_right (Yf h)⟩
 have full:∀(E:Nat->Prop)(s:St)(a:Act)(w:World),Sat k d eff E C s->(∀i,i<k->E i)->Rl P S s a w->Rl P S stk a w:=fun E s a w hs hEZ hr=>by
  refine hr.congr (fun x=>?_) (fun L hLZ=>?_) (fun q J=>?_) ?_
  ·by_cases M:∃j,j<k/\d j=x
   ·obtain⟨j,p,rfl⟩:=M
    rw[A.e1 j p p,hs.e1 j p (hEZ j p)]
   ·have H:∀j,j<k->d j≠x:=fun j p e=>M ⟨j,p,e⟩
    rw[A.e2 x fun j p _=>H j p,hs.e2 x fun j p _=>H j p]
  ·refine(hs.e3 L).2 (((A.e3 L).1 hLZ).imp ?_ ?_)
   ·rintro⟨i,t,v,B,O⟩;exact⟨i,t,hEZ i t,B,O⟩
   ·rintro⟨t,v⟩;exact⟨t,fun i y _=>v i y y⟩
  ·obtain⟨i,t,v,B,O⟩:=(A.e4 q).1 J
   exact(hs.e4 q).2 ⟨i,t,hEZ i t,B,O⟩
  ·by_cases M:∃j,j<k/\(eff j).nb≠[]
   ·obtain⟨j,p,G⟩:=M
    rw[A.e6 j p p G,hs.e6 j p (hEZ j p) G]
   ·have H:∀j,j<k->(eff j).nb=[]:=fun j p=>Gt fun h=>M ⟨j,p,h⟩
    rw[A.e5 fun j p _=>H j p,hs.e5 fun j p _=>H j p]
 have fin:∀(g:Array Bool)(a:Act)(w:World),(∀i,i<ops.size->g.getD i false=true)->
  ((∃s,Sat k d eff (fun j=>g.getD j false=true) C s/\Rl P S s a w/\∀i,k<=i->¬g.getD i false=true)\/
    (∃m s,k<=m/\m<=ops.size/\(∀i,i<ops.size->(g.getD i false=true ↔ i<m))/\Hc cf ((cs.drop k).take (m - k)) stk=some s/\Rl P S s a w))->Q .normal a w:=fun g a w u h=>by
  rcases h with⟨s,t,v,B⟩|⟨m,s,t,v,B,O,h5Z⟩
  ·have J:ops.size<=k:=by
    rcases Mh k ops.size with h|h
    ·exact absurd (u k h) (B k (Aa _))
    ·exact h
   have h6Z:=full _ s a w t (fun i y=>u i aa) v;have:cs.drop k=[]:=xk.2 aa;rw[this]at D;simp only[Hc,Wb]at D;subst D;exact hKZ a w h6Z
  ·have hmn:m=ops.size:=by
    rcases Mh m ops.size with h|h
    ·have:=(B m h).1 (u m h);omega
    ·omega
   rw[uk (by rw[fc];omega),D]at O;cases O;exact hKZ a w h5Z
 have main:∀(fuel:Nat)(g:Array Bool)(a:Act)(w:World),g.size=ops.size->((List.range ops.size).filter fun i=>!g.getD i false).length<=fuel->
  (∀i,i<ops.size->g.getD i false=true->∀j∈ch ops i,g.getD j false=true)->
  ((∃s,Sat k d eff (fun j=>g.getD j false=true) C s/\Rl P S s a w/\∀i,k<=i->¬g.getD i false=true)\/
    (∃m s,k<=m/\m<=ops.size/\(∀i,i<ops.size->(g.getD i false=true ↔ i<m))/\Hc cf ((cs.drop k).take (m - k)) stk=some s/\Rl P S s a w))->
  wpAnyIn (fw r) 0 P .any ops Q fuel g a w:=by
  intro fuel;have rdy:∀(g:Array Bool)(i:Nat),g.size=ops.size->(i∈Region.ready .any ops g ↔ i<ops.size/\¬g.getD i false=true/\∀j∈ch ops i,g.getD j false=true):=fun g i hzZ=>by
   rw[mem_ready];constructor
   ·rintro⟨t,o,hoZ,v⟩
    have y:=(Kh.1 hoZ).1;refine⟨y,?_,fun j p=>?_⟩
    ·rw[po,Ht aa]at t⊢
     simp at t⊢;exact t
    ·unfold ch at p
     rw[hoZ]at p;obtain⟨e,N,G⟩:=Bw.1 p;split at G
     ·rename_i J;cases G;exact v e (by simpa using N) J
     ·cases G
   grind [ch]
  have stuck:∀g:Array Bool,g.size=ops.size->Region.ready .any ops g=[]->∀i,i<ops.size->g.getD i false=true:=fun g hzZ hrd i=>by
   induction i using Nat.strongRecOn<;>grind
  induction fuel with
  |zero=>
   intro g a w hzZ hcZ _ hph;have u:∀i,i<ops.size->g.getD i false=true:=fun i y=>by
    simp_all
   refine⟨?_,fin g a w u hph⟩;cases hrl:Region.ready .any ops g with
   |nil=>rfl
   |cons i r=>
    have:=(rdy g i hzZ).1 (by rw[hrl];simp);exact absurd (u i this.1) this.2.1
  |succ fuel ihZ=>
   intro g a w hzZ hcZ hcl hph;refine⟨fun h=>fin g a w (stuck g hzZ h) hph,fun i y=>?_⟩;obtain⟨X,R,hdir⟩:=(rdy g i hzZ).1 y;have V:∀i,g.getD i false=true->∀j∈ch ops i,g.getD j false=true:=fun i'Z h=>by
    grind
   have U:∀x∈(zl ops).getD i [],g.getD x false=true:=zB V X hdir;have hz2:(g.setIfInBounds i true).size=ops.size:=by simp[hzZ]
   have hcnt:((List.range ops.size).filter fun j=>!(g.setIfInBounds i true).getD j false).length<=fuel:=by
    have e1:((List.range ops.size).filter fun j=>!(g.setIfInBounds i true).getD j false)=((List.range ops.size).filter fun j=>!g.getD j false).filter (· !=i):=by
     rw[bm];apply uo;intro j _;have:=I g i j aa;by_cases hji:j=i
     ·subst hji
      have t:(g.setIfInBounds j true).getD j false=true:=this.2 (.inr rfl);rw[t];simp
     ·rw[getD_set_ne false (Yf hji)];simp[hji]
    have J:i∈(List.range ops.size).filter fun j=>!g.getD j false:=Yc.2 ⟨Ri.2 X,by simpa using R⟩
    rw[e1];have:=VI.2 (show∃x∈(List.range ops.size).filter (fun j=>!g.getD j false),¬((x !=i)=true)from⟨i,J,ea⟩);omega
   have hcl2:∀i'Z,i'Z<ops.size->(g.setIfInBounds i true).getD i'Z false=true->∀j∈ch ops i'Z,(g.setIfInBounds i true).getD j false=true:=fun i'Z hi' h j p=>by
    rw[I g i _ aa]at h⊢;rcases h with h|rfl
    ·exact .inl (hcl i'Z hi' h j p)
    ·exact .inl (hdir j p)
   have N:∀m s,k<=m->m<ops.size->(∀i,i<ops.size->(g.getD i false=true ↔ i<m))->Hc cf ((cs.drop k).take (m - k)) stk=some s->Rl P S s a w->wpOpIn (fw r) 0 P ops Q i (wpAnyIn (fw r) 0 P .any ops Q fuel (g.setIfInBounds i true)) a w:=fun m s hmZ hm2 hlZ hev hrl=>by
    have J:i=m:=by
     have t:¬i<m:=fun h=>R ((hlZ i X).2 h)
     rcases htl i aa with h|h
     ·omega
     ·rcases Mh m i with v|v
      ·have B:=U m (by simpa using h m v)
       have:=(hlZ m hm2).1 B;omega
      ·omega
    subst J;obtain⟨c,s',t,v,B⟩:=T i hmZ hm2 s hev;obtain⟨o,hoZ,W⟩:=hco i c t;refine Tw hoZ (Zz hcf hSZ W v hrl fun a' w' hr'=>ihZ _ a' w' hz2 hcnt hcl2 (.inr ⟨i+1,s',aa,aa,fun j p=>?_,B,hr'⟩));rw[I g i j aa,hlZ j p];omega
   rcases hph with⟨s,t,v,B⟩|⟨m,s,t,v,B,O,h5Z⟩
   ·by_cases hik:i<k
    ·obtain⟨c,siZ,hc1,hsi,_,M,_,hloc⟩:=Z i hik
     obtain⟨o,hoZ,W⟩:=hco i c hc1;obtain⟨si',hsi',J⟩:=hsat i aa;rw[hsi]at hsi';cases hsi';have hsib:siZ.bx=C.bx:=J.e5 fun j p hji=>Gt fun h=>by
      have:=hnb j p h;omega
     have hstep:=hloc s (fun x hxr=>by
      by_cases M:∃j,j<k/\d j=x
      ·obtain⟨j,p,rfl⟩:=M
       obtain⟨q1Z,q2Z⟩:=hrd i c hik hc1 _ hxr j p rfl;rw[t.e1 j p (U j q2Z),J.e1 j p q1Z]
      ·have H:∀j,j<k->d j≠x:=fun j p e=>M ⟨j,p,e⟩
       rw[t.e2 x fun j p _=>H j p,J.e2 x fun j p _=>H j p]) (by
       rw[hsib];by_cases M:∃j,j<k/\g.getD j false=true/\(eff j).nb≠[]
       ·obtain⟨j,p,Y,G⟩:=M
        exact⟨_,t.e6 j p Y G⟩
       ·exact⟨[],by rw[Sg];exact t.e5 fun j p Y=>Gt fun h=>M ⟨j,p,Y,h⟩⟩) (fun hlast=>by
       rw[hsib];refine t.e5 fun j p Y=>Gt fun h=>?_
       have:=hnb j p h;exact R ((show j=i by omega)▸Y))
     have hnew:=t.step hdd hik R hnb fun j p hEZ L hLZ=>halx i hik j p (fun j=>g.getD j false=true) R hEZ (zB V aa (V j hEZ)) L hLZ
     refine Tw hoZ (Zz hcf hSZ W (zej hstep) v fun a' w' hr'=>ihZ _ a' w' hz2 hcnt hcl2 (.inl ⟨_,?_,hr',fun j p hlj=>?_⟩))
     ·have e:(fun j=>(g.setIfInBounds i true).getD j false=true)=fun j=>g.getD j false=true\/j=i:=by
       funext j;exact propext (I g i j aa)
      rw[e];omega
     ·rcases(I g i j aa).1 hlj with h|h
      ·exact B j p h
      ·omega
    ·
     have u:∀j,j<i->g.getD j false=true:=fun j p=>by
      rcases htl i aa with h|h
      ·omega
      ·exact U j (by simpa using h j p)
     have J:i=k:=by
      rcases Mh k i with h|h
      ·exact absurd (u k h) (B k (Aa _))
      ·omega
     subst J;exact N i stk (Aa _) X (fun j p=>⟨fun h=>by
      rcases Mh j i with h'Z|h'Z
      ·exact h'Z
      ·exact absurd h (B j h'Z),fun h=>u j h⟩) (by simp[Hc]) (full _ s a w t u v)
   ·have hmn:m<ops.size:=by
     rcases Mh m ops.size with h|h
     ·exact h
     ·exact absurd ((B i X).2 aa) R
    exact N m s t hmn B O h5Z
 refine main ops.size _ a w ea (Xf (List.length_filter_le _ _) ea) (fun i y h=>by simp[y]at h) (.inl ⟨C,?_,hr,fun i y h=>?_⟩)
 ·have J:=Sat.start (k:=k) (d:=d) (eff:=eff) hal
  have e:(fun j=>(Array.replicate ops.size false).getD j false=true)=fun _=>False:=by
   funext j;apply propext;by_cases p:j<ops.size<;>simp[p]
  rw[e];exact J
 ·by_cases p:i<ops.size<;>simp[p]at h
end
def Cd(D:List Nat):Loc->Bool
 | .slot i=>!D.contains i
 | .cell ..=>true
structure Part (N:Nat→Prop) (D:List Nat) (s1 s:St):Prop where
 sl:∀ x,¬ N x→look s1.sl x=look s.sl x
 ow:s1.ow.filter (Cd D)=s.ow
 al:s1.al=s.al
 bx:s1.bx=s.bx
 no:∀ q∈s.al,q.1 ∉ D∧Cd D q.2=true
 un:∀ x,x∈D→¬ N x→.slot x ∉ s1.ow
section
variable {N:Nat→Prop} {D:List Nat} {s1 s s':St} {cf:Callee}
theorem Bm{i}:Cd D (.slot i)=true ↔ i∉D:=by simp[Cd]
def Part.own(h:Part N D s1 s){L}(d:∀i,L=.slot i->¬N i):L∈s1.ow ↔ L∈s.ow:=by
 rw[<-h.ow,Yc];cases L with
 |cell b o=>simp[Cd]
 |slot i=>
  rw[Bm];constructor
  ·intro a
   exact⟨a,fun c=>h.un i c (d i rfl) a⟩
  grind
theorem Part.cells(h:Part N D s1 s):s1.ow.filter Da=s.ow.filter Da:=by
 rw[<-h.ow,bm];apply uo;intro L _;cases L<;>simp[Cd,Da]
theorem Cl{d}(l):(Va d l).filter (Cd D)=Va d (l.filter (Cd D)):=by
 grind [Va,List.filter_filter]
theorem Lu(p)(l:List Loc):(l.filter p).filter (Cd D)=(l.filter (Cd D)).filter p:=by
 grind [List.filter_filter]
def rP{L}(h:Cd D L=true)(l):(L::l).filter (Cd D)=L::l.filter (Cd D):=na
theorem Hz{b}:∀(o)(l),∀L∈Zc b o l,Da L=true
 |_,[],L,h=>by grind [Zc]
 |o,p::r,L,h=>by
  simp only[Zc]at h;split at h
  ·rcases wb.1 h with rfl|h
   ·rfl
   ·exact Hz (o+1) r L h
  ·exact Hz (o+1) r L h
def WD{b o}{l}(m):(Zc b o l++m).filter (Cd D)=Zc b o l++m.filter (Cd D):=by
 rw[List.filter_append];congr 1;refine VA.2 fun L a=>?_
 have:=Hz o l L a;cases L with
 |slot i=>cases this
 |cell=>rfl
def Vk{d}{l}{L}:L∈Va d l->L∈l:=fun h=>(Yc.1 h).1
def Part.mk'(h:Part N D s1 s){d}{v}(g:d∉D){ow1 ow}{al}{bx}(b:ow1.filter (Cd D)=ow)(a:∀q∈al,q.1∉D/\Cd D q.2=true)(c:∀x,x∈D->¬N x->.slot x∉ow1):
 Part N D ⟨(d,v)::s1.sl,ow1,al,bx⟩ ⟨(d,v)::s.sl,ow,al,bx⟩:=
 ⟨fun x e=>by simp only[Ae];split;rfl;exact h.sl x e,b,rfl,rfl,a,c⟩
def Part.Bz(h:Part N D s1 s){ow1 ow}{al}{bx}(b:ow1.filter (Cd D)=ow)(a:∀q∈al,q.1∉D/\Cd D q.2=true)(c:∀x,x∈D->¬N x->.slot x∉ow1):
 Part N D ⟨s1.sl,ow1,al,bx⟩ ⟨s.sl,ow,al,bx⟩:=
 ⟨h.sl,b,rfl,rfl,a,c⟩
def Part.Qs(h:Part N D s1 s)(d):∀q∈Jb d s.al,q.1∉D/\Cd D q.2=true:=fun q a=>h.no q (Yc.1 a).1
theorem Part.put(h:Part N D s1 s){d}(e:d∉D)(v):Part N D (s1.put d v) (s.put d v):=by
 have:=h.mk' (v:=v) e (ow1:=Va d s1.ow) (ow:=Va d s.ow) (al:=Jb d s.al) (bx:=s.bx) (by rw[Cl,h.ow]) (h.Qs d) fun x a b c=>h.un x a b (Vk c)
 grind [St.put,al,bx]
def KA{d}(e:d∉D){l}(h:∀x,x∈D->¬N x->.slot x∉l):∀x,x∈D->¬N x->.slot x∉(.slot d::l:List Loc):=fun x a b c=>by
 grind
def zfn{b o}{l}(h:∀x,x∈D->¬N x->.slot x∉l):∀x,x∈D->¬N x->.slot x∉(.cell b o::l:List Loc):=fun x a c d=>by
 grind
def HI{b o}{ps}{l}(h:∀x,x∈D->¬N x->.slot x∉l):∀x,x∈D->¬N x->.slot x∉(Zc b o ps++l):=fun x c d a=>by
 rcases Ue.1 a with a|a
 ·have:=Hz o ps _ a;cases this
 grind
theorem Part.Ic(h:Part N D s1 s){d}(a:d∉D)(v):Part N D (s1.Ic d v) (s.Ic d v):=by
 have:=h.mk' (v:=v) a (ow1:=.slot d::Va d s1.ow) (ow:=.slot d::Va d s.ow) (al:=Jb d s.al) (bx:=s.bx) (by grind [Bm,Cl,ow]) (h.Qs d)
  (KA a fun x b c e=>h.un x b c (Vk e))
 grind [St.Ic,al,bx]
theorem Part.Nd(h:Part N D s1 s){d}(a:∀x,d=some x->x∉D)(v):Part N D (s1.Nd d v) (s.Nd d v):=by
 cases d with
 |none=>exact h
 |some d=>exact h.put (a d rfl) v
theorem Part.Lc(h:Part N D s1 s){d}(g:∀x,d=some x->x∉D){f}{az}(hs:ya.Lc cf s d f az=some s'):∃b,ya.Lc cf s1 d f az=some b/\Part N D b s':=by
 unfold ya.Lc at hs⊢;rw[h.cells,h.bx];obtain⟨⟨vs,os,bx,oc⟩,c,rfl⟩:=qm hs;rw[c];refine⟨_,rfl,?_⟩;have e:Part N D ⟨s1.sl,oc.filter Da++s1.ow.filter (fun L=>!Da L),s1.al.filter fun p=>!Da p.2,bx⟩ ⟨s.sl,oc.filter Da++s.ow.filter (fun L=>!Da L),s.al.filter fun p=>!Da p.2,bx⟩:=by
  rw[h.al];refine h.Bz ?_ (fun q l=>h.no q (Yc.1 l).1) fun x c j a=>?_
  ·rw[List.filter_append,Lu (fun L=>!Da L),h.ow]
   congr 1;refine VA.2 fun L k=>?_
   have:=(Yc.1 k).2;cases L with
   |slot i=>cases this
   |cell=>rfl
  ·rcases Ue.1 a with a|a
   ·have:=(Yc.1 a).2;cases this
   ·exact h.un x c j (Yc.1 a).1
 cases d with
 |none=>exact e
 |some d=>
  cases os
  ·exact e.put (g d rfl) _
  ·exact e.Ic (g d rfl) _
theorem Part.Sc(h:Part N D s1 s){d}(c:∀x,d=some x->x∉D){f}{az}(hs:ya.Sc cf s d f az=some s'):∃b,ya.Sc cf s1 d f az=some b/\Part N D b s':=by
 unfold ya.Sc at hs⊢;split at hs
 ·rename_i e
  rw[if_pos e];obtain⟨⟨vs,os,bx,oc⟩,i,a⟩:=qb hs;rw[i,Ja];dsimp only at a⊢;split at a
  ·rename_i g
   rw[if_pos g];cases d with
   |none=>grind
   |some d=>
    cases os
    ·cases a;exact⟨_,rfl,h.put (c d rfl) _⟩
    ·cases a;exact⟨_,rfl,h.Ic (c d rfl) _⟩
  ·rename_i g
   rw[if_neg g];exact h.Lc c a
 ·rename_i e
  rw[if_neg e];exact h.Lc c hs
def Part.xev(h:Part N D s1 s){x:X}(b:∀i∈x.Wl,¬N i):x.ev s1.sl=x.ev s.sl:=bW fun i a=>h.sl i (b i a)
theorem Part.origin(h:Part N D s1 s){t}(ht:¬N t):ya.origin s1 t=ya.origin s t:=by
 unfold ya.origin;have:=h.own (L:=.slot t) fun i e=>by grind
 grind [al]
theorem Part.bb(h:Part N D s1 s)(g:∀x,N x->x∈D){t}(ht:¬N t){L}(a:ya.origin s t=some L):ya.bb s1 L=ya.bb s L/\(L∈s1.ow ↔ L∈s.ow)/\∀i,L=.slot i->¬N i:=by
 have c:∀i,L=.slot i->¬N i:=fun i e=>by
  unfold ya.origin at a;split at a
  ·grind
  ·obtain⟨q,d,rfl⟩:=qm a
   have:=(h.no q (List.mem_of_find?_eq_some d)).2
   grind [Bm]
 refine⟨?_,h.own c,c⟩;cases L with
 |slot i=>simp only[ya.bb];rw[h.sl i (c i rfl)]
 |cell b o=>grind [ya.bb,bx]
def sB:Ea->Option Nat
 | .mvA s=>some s
 |_=>none
theorem V3(h:Part N D s1 s)(P:∀x,N x->x∈D){d}(u:∀x,d=some x->x∉D){c}(hr:∀x∈c.xs,∀i∈x.Wl,¬N i)(W:∀i,sB c=some i->i∉D)(hs:oa cf s d c=some s'):∃Q,oa cf s1 d c=some Q/\Part N D Q s':=by
 have B:∀x∈c.xs,x.ev s1.sl=x.ev s.sl:=fun x B=>h.xev (hr x B)
 by_cases S:ik c=true
 ·rw[io S]at hs⊢
  rw[iI B];obtain⟨p,r,rfl⟩:=qm hs;rw[r];exact⟨_,rfl,h.Nd u p⟩
 cases c<;>try (exact absurd rfl S)
 case mvA x=>
  simp only[oa]at hs⊢;obtain⟨d,rfl,l⟩:=qb hs;split at l
  ·cases l
  ·rename_i F
   cases l;have G:look s1.sl x=look s.sl x:=B (.t x) (by simp[Ea.xs]);refine⟨_,by rw[Ja,if_neg F],?_⟩;unfold St.put;rw[G,h.al,h.bx];refine h.mk' (u d rfl) (by rw[Cl,h.ow]) (fun q A=>?_) fun y r l w=>h.un y r l (Vk w)
   rcases wb.1 A with rfl|A
   ·exact⟨u d rfl,Bm.2 (W x rfl)⟩
   ·exact h.Qs d q A
 case asg x=>
  cases x with
  |c v=>exact absurd rfl S
  |t i=>
   have I:¬N i:=hr (.t i) (by simp[Ea.xs]) i (by simp[X.Wl]);have G:look s1.sl i=look s.sl i:=h.sl i I;have C:=h.own (L:=.slot i) fun j e=>by grind
   simp only[oa]at hs⊢;cases d with
   |none=>cases hs
   |some d=>
    dsimp only at hs⊢;split at hs
    ·cases hs
    ·rename_i hid
     rw[if_neg hid];split at hs
     ·rename_i J
      cases hs;rw[if_pos (C.2 J)];refine⟨_,rfl,?_⟩;rw[G,h.al,h.bx];refine h.mk' (u d rfl) (by grind [Bm,Cl,Part.ow]) (fun q A=>h.no q (Yc.1 (Yc.1 A).1).1) (KA (u d rfl) fun y r l w=>h.un y r l (Vk (Vk w)))
     ·rename_i J
      cases hs;rw[if_neg fun k=>J (C.1 k),G];exact⟨_,rfl,h.put (u d rfl) _⟩
 case alloc e zs=>
  obtain⟨d,rfl,rfl⟩:=qm hs;refine⟨_,rfl,?_⟩;unfold St.put;rw[h.al,h.bx];exact h.mk' (u d rfl) (by rw[WD,Cl,h.ow]) (h.Qs d) (HI fun y r l w=>h.un y r l (Vk w))
 case box e n x=>
  have z:=B x (by simp[Ea.xs]);simp only[oa]at hs⊢;obtain⟨d,rfl,l⟩:=qb hs;split at l
  ·rename_i E
   cases l;refine⟨_,by rw[Ja,z,if_pos E],?_⟩;unfold St.put;rw[h.al,h.bx];exact h.mk' (u d rfl) (by rw[WD,Cl,h.ow]) (h.Qs d) (HI fun y r l w=>h.un y r l (Vk w))
  grind
 case mksl R n size zs ps=>
  simp only[oa]at hs⊢;obtain⟨d,rfl,l⟩:=qb hs;obtain⟨cs,r,w⟩:=qb l;have:(ps.map fun q=>(q.1,q.2.1,q.2.2.ev s1.sl))=ps.map fun q=>(q.1,q.2.1,q.2.2.ev s.sl):=rl fun q A=>by rw[B q.2.2 (si.2 ⟨q,A,rfl⟩)]
  split at w
  ·cases w
   refine⟨_,na,h.Ic (u d rfl) _⟩
  grind
 case b2s x=>
  simp only[oa]at hs⊢;obtain⟨p,r,rfl⟩:=qm hs;rw[B x (by simp[Ea.xs]),h.bx,r];exact⟨_,rfl,h.Nd u p⟩
 case load F n x=>
  simp only[oa]at hs⊢;obtain⟨d,rfl,l⟩:=qb hs;obtain⟨p,r,rfl⟩:=qm l;rw[B x (by simp[Ea.xs]),h.bx,r];exact⟨_,rfl,h.put (u d rfl) p⟩
 case loadA x=>
  have z:=B x (by simp[Ea.xs]);simp only[oa]at hs⊢;obtain⟨d,rfl,l⟩:=qb hs;split at l
  ·rename_i b o e
   obtain⟨p,r,rfl⟩:=qm l;rw[z,e,h.bx];refine⟨_,by simp only[Ja,r,fd];rfl,?_⟩;unfold St.put;rw[h.al,h.bx];refine h.mk' (u d rfl) (by rw[Cl,h.ow]) (fun q A=>?_) fun y r l w=>h.un y r l (Vk w)
   rcases wb.1 A with rfl|A
   ·exact⟨u d rfl,rfl⟩
   ·exact h.Qs d q A
  grind
 case loadM x=>
  have z:=B x (by simp[Ea.xs]);simp only[oa]at hs⊢;obtain⟨d,rfl,l⟩:=qb hs;split at l
  ·rename_i b o e
   obtain⟨p,r,l⟩:=qb l;split at l
   case isFalse=>cases l
   rename_i E;cases l;rw[z,e,h.bx];refine⟨_,by simp only[Ja,r];rw[if_pos ((h.own (L:=.cell b o) fun i e=>by cases e).2 E)],?_⟩;unfold St.put;rw[h.bx];refine h.mk' (u d rfl) (by grind [Bm,Lu,Cl,Part.ow]) (fun q A=>by cases A) fun y r l w=>?_
   rcases wb.1 w with w|w
   ·grind
   ·exact h.un y r l (Vk (Yc.1 w).1)
  grind
 case store n a x=>
  have T:=B a (by simp[Ea.xs]);have z:=B x (by simp[Ea.xs]);simp only[oa]at hs⊢;split at hs
  ·rename_i b o e
   rw[T,z,h.bx]
   try rw[e]
   try dsimp only
   obtain⟨q,r,l⟩:=qb hs;rw[r,Ja];split at l
   ·rename_i E
    rw[if_pos E];have F:∀q∈s.al.filter (fun p=>!Md b o n p.2),q.1∉D/\Cd D q.2=true:=fun q A=>h.no q (Yc.1 A).1
    have K:(Zc b o (x.ev s.sl).cells++s1.ow.filter fun L=>!Md b o n L).filter (Cd D)=Zc b o (x.ev s.sl).cells++s.ow.filter fun L=>!Md b o n L:=by rw[WD,Lu,h.ow]
    have M:∀y,y∈D->¬N y->.slot y∉(Zc b o (x.ev s.sl).cells++s1.ow.filter fun L=>!Md b o n L):=HI fun y r l w=>h.un y r l (Yc.1 w).1
    cases x with
    |c v=>
     cases l;refine⟨_,rfl,?_⟩;rw[h.al];exact h.Bz K F M
    |t i=>
     have I:¬N i:=hr (.t i) (by simp[Ea.xs]) i (by simp[X.Wl]);have C:=h.own (L:=.slot i) fun j e=>by grind
     dsimp only at l⊢;split at l
     ·rename_i J
      cases l;rw[if_pos (C.2 J)];refine⟨_,rfl,?_⟩;rw[h.al];exact h.Bz (by rw[rP rfl,Cl,K]) (fun q A=>F q (Yc.1 A).1) (zfn fun y r l w=>M y r l (Vk w))
     ·rename_i J
      cases l;rw[if_neg fun k=>J (C.1 k)];refine⟨_,rfl,?_⟩;rw[h.al];exact h.Bz K F M
   grind
  grind
 case append R size x y=>
  have z:=B x (by simp[Ea.xs]);have O:=B y (by simp[Ea.xs]);simp only[oa]at hs⊢;rw[z,O];split at hs
  ·rename_i H
   rw[if_pos H];split at hs
   ·split at hs
    ·rename_i E
     rw[if_pos E];obtain⟨d,rfl,rfl⟩:=qm hs;refine⟨_,rfl,?_⟩;split
     ·exact h.put (u d rfl) _
     ·exact h.Ic (u d rfl) _
    grind
   grind
  ·rename_i H
   rw[if_neg H];cases x with
   |c v=>cases hs
   |t i=>
    have I:¬N i:=hr (.t i) (by simp[Ea.xs]) i (by simp[X.Wl]);dsimp only at hs⊢;obtain⟨L,r,hs⟩:=qb hs;obtain⟨d,rfl,hs⟩:=qb hs;obtain⟨U,V,Y⟩:=h.bb P I r;rw[h.origin I,r,Ja,Ja,U];split at hs
    ·split at hs
     ·rename_i E
      cases hs;obtain⟨c1,c2,c3,c4,c5⟩:=E;refine⟨_,by rw[if_pos ⟨c1,c2,c3,V.2 c4,c5⟩],?_⟩;rw[h.al,h.bx];exact h.mk' (u d rfl) (by rw[rP (Bm.2 (u d rfl)),Cl,Lu,h.ow]) (fun q A=>h.no q (Yc.1 (Yc.1 A).1).1) (KA (u d rfl) fun y r l w=>h.un y r l (Yc.1 (Vk w)).1)
     ·cases hs
    ·cases hs
 case appendS x y=>
  have z:=B x (by simp[Ea.xs]);have O:=B y (by simp[Ea.xs]);simp only[oa]at hs⊢;rw[z,O];split at hs
  ·rename_i H
   rw[if_pos H];split at hs
   ·split at hs
    ·rename_i E
     rw[if_pos E];obtain⟨d,rfl,rfl⟩:=qm hs;refine⟨_,rfl,?_⟩;split
     ·exact h.put (u d rfl) _
     ·exact h.Ic (u d rfl) _
    grind
   grind
  ·rename_i H
   rw[if_neg H];cases x with
   |c v=>cases hs
   |t i=>
    have I:¬N i:=hr (.t i) (by simp[Ea.xs]) i (by simp[X.Wl]);dsimp only at hs⊢;obtain⟨L,r,hs⟩:=qb hs;obtain⟨d,rfl,hs⟩:=qb hs;obtain⟨U,V,Y⟩:=h.bb P I r;rw[h.origin I,r,Ja,Ja,U];split at hs
    ·split at hs
     ·rename_i E
      cases hs;obtain⟨c1,c2,c3,c4⟩:=E;refine⟨_,by rw[if_pos ⟨c1,c2,V.2 c3,c4⟩],?_⟩;rw[h.al,h.bx];exact h.mk' (u d rfl) (by grind [Bm,Cl,Lu,Part.ow]) (fun q A=>h.no q (Yc.1 (Yc.1 A).1).1) (KA (u d rfl) fun y r l w=>h.un y r l (Yc.1 (Vk w)).1)
     ·cases hs
    ·cases hs
 case call f args=>
  have:(args.map fun x=>(x.ev s1.sl).jb)=args.map fun x=>(x.ev s.sl).jb:=rl fun x h=>by rw[B x h]
  simp only[oa]at hs⊢;rw[this];exact h.Sc u hs
 case callv g args=>
  have:(args.map fun x=>(x.ev s1.sl).jb)=args.map fun x=>(x.ev s.sl).jb:=rl fun x h=>by rw[B x (kn _ h)]
  simp only[oa]at hs⊢;rw[this,B g (by simp[Ea.xs])];split at hs
  ·split at hs
   ·cases hs
   ·rename_i hf
    rw[if_neg hf];exact h.Sc u hs
  ·split at hs
   ·rename_i hf
    rw[if_pos hf];exact h.Sc u hs
   ·cases hs
  ·exact h.Lc u hs
  grind
 case calli Eh g args=>
  have:(args.map fun x=>(x.ev s1.sl).jb)=args.map fun x=>(x.ev s.sl).jb:=rl fun x h=>by rw[B x (kn _ h)]
  simp only[oa]at hs⊢;rw[this,B g (by simp[Ea.xs])];split at hs
  ·obtain⟨f,hf,hs⟩:=qb hs
   rw[hf,Ja];split at hs
   ·cases hs
   ·rename_i H
    rw[if_neg H];exact h.Sc u hs
  ·cases hs
def frame(h:Part N D s1 s)(e:∀x,N x->x∈D){o}(g:∀x,o.dst=some x->x∉D)(hr:∀i∈o.reads,¬N i)(l:∀i,sB o.op=some i->i∉D)(hs:stepG cf s o=some s'):∃a,stepG cf s1 o=some a/\Part N D a s':=by
 have j:xh s1 o.g=xh s o.g:=by
  cases k:o.g with
  |none=>rfl
  |some q=>
   obtain⟨i,w⟩:=q;simp only[xh];rw[h.sl i (hr i (by simp[Wa.reads,k]))]
 unfold stepG at hs⊢;rw[j];obtain⟨b,d,c⟩:=qb hs;rw[d,Ja];cases b with
 |false=>
  simp only[La,if_false,Wb]at c⊢;subst c;exact⟨_,rfl,h.Nd g _⟩
 |true=>
  grind [V3,Wa.reads]
end
def vv:Ea->Bool
 | .load ..=>true
 |_=>false
def hA(qs:List FuncId):Ea->Bool
 | .call f _=>qs.contains f
 |_=>false
def gt(qs:List FuncId)(c:Ea):Bool:=ik c||(vv c||hA qs c)
def GA:Ea->Bool
 | .store .. | .call .. | .callv .. | .calli .. | .alloc .. | .box .. | .loadA .. | .loadM .. | .append .. | .appendS ..=>true
 |_=>false
def hB:Ea->Bool
 | .store .. | .call .. | .callv .. | .calli ..=>true
 |_=>false
section
variable {cf:Callee} {st st' stk:St}
def Yw(st a:St)(c:Ea):Prop:=(vv c=true->∃z,a.bx=st.bx++z)/\(ik c=false->vv c=false->a.bx=st.bx/\a.ow.filter Da=st.ow.filter Da/\∀q∈a.al,Da q.2=false)
structure Zi (s s':St):Prop where
 sl:∀ x,look s'.sl x=look s.sl x
 ow:∀ L,L∈s.ow→L∈s'.ow
 al:∀ q,q∈s.al→q∈s'.al
 bx:s'.bx=s.bx
def Zi.rfl'(s):Zi s s:=⟨fun _=>rfl,fun _ h=>h,fun _ h=>h,rfl⟩
theorem mU{d}{f}{az}{a}(h:Lc cf st (some d) f az=some st')(k:st'.bx=st.bx)(e:st'.ow.filter Da=st.ow.filter Da)(b:a.bx=st.bx)(c:a.ow.filter Da=st.ow.filter Da)(j:∀q∈a.al,Da q.2=false):
 ∃s',Lc cf a (some d) f az=some s'/\Zi (a.put d (look st'.sl d)) s':=by
 unfold Lc at h⊢;rw[b,c];obtain⟨⟨vs,os,bx,oc⟩,i,rfl⟩:=qm h;rw[i];refine⟨_,rfl,?_⟩;have g:oc.filter Da=st.ow.filter Da:=by
  rw[<-e];have e1:∀l:List Loc,(Va d l).filter Da=l.filter Da:=fun l=>by
   unfold Va;rw[bm];apply uo;intro L _;cases L<;>simp[Da,Vd]
  have e2:(oc.filter Da++st.ow.filter (fun L=>!Da L)).filter Da=oc.filter Da:=by
   rw[List.filter_append,bm,bm];have:st.ow.filter (fun L=>Da L&& !Da L)=[]:=List.filter_eq_nil_iff.2 fun L _=>by simp
   rw[this,Sg];apply uo;intro L _;simp
  cases os
  ·show _=(Va d _).filter Da
   grind
  ·show _=(.slot d::Va d _:List Loc).filter Da
   grind [Da]
 grind [Va,Jb,Zi.mk,St.put,Ae,St.Ic]
def zcs{d}{f}{az}{a}(h:Sc cf st (some d) f az=some st')(g:st'.bx=st.bx)(i:st'.ow.filter Da=st.ow.filter Da)(b:a.bx=st.bx)(c:a.ow.filter Da=st.ow.filter Da)(e:∀q∈a.al,Da q.2=false):
 ∃s',Sc cf a (some d) f az=some s'/\Zi (a.put d (look st'.sl d)) s':=by
 unfold Sc at h⊢;split at h
 ·obtain⟨⟨vs,os,bx,oc⟩,j,k⟩:=qb h
  grind [Zi.mk,St.put,Ae,St.Ic,mU]
 grind [mU]
theorem zem{qs}{o}{d}(l:gt qs o.op=true)(A:o.dst=some d)(h:Pc cf st o=some st'):
 ∃p,st'=st.put d p/\∀a,(∀x∈o.reads,look a.sl x=look st.sl x)->Yw st a o.op->∃s',stepG cf a o=some s'/\Zi (a.put d p) s':=by
 obtain⟨dst,g,c⟩:=o;subst A;have i:∀b,xh st g=some b->∀a:St,(∀s∈(Wa.mk (some d) g c).reads,look a.sl s=look st.sl s)->xh a g=some b:=fun b j a h=>by
  grind [xh,Wa.reads]
 have y:∀a:St,(∀s∈(Wa.mk (some d) g c).reads,look a.sl s=look st.sl s)->∀x∈c.xs,x.ev a.sl=x.ev st.sl:=fun a h=>SD fun s hs=>h s (by grind [Wa.reads])
 by_cases q:ik c=true
 ·have hs:stepG cf st ⟨some d,g,c⟩=some st':=by
   unfold Pc at h;cases c<;>first|exact h|(cases q;done)
  obtain⟨b,j,e⟩:=qb hs;cases b with
  |false=>
   simp only[La,if_false,Wb]at e;subst e;exact⟨.Jc [],rfl,fun a hr _=>⟨_,by unfold stepG;simp only[i _ j a hr,Ja,La,if_false];rfl,Zi.rfl' _⟩⟩
  |true=>
   rw[io q]at e;obtain⟨p,r,rfl⟩:=qm e;refine⟨p,rfl,fun a hr _=>⟨a.put d p,?_,Zi.rfl' _⟩⟩;unfold stepG;simp only[i _ j a hr,Ja,if_true,io q,iI (y a hr),r];rfl
 ·have v:ik c=false:=by simpa using q
  unfold gt at l;rw[v]at l;simp only[Ug,Sp]at l;rcases l with B|C
  ·cases c<;>try (cases B;done)
   case load t n x=>
    have hs:stepG cf st ⟨some d,g,.load t n x⟩=some st':=h;obtain⟨b,j,e⟩:=qb hs;cases b with
    |false=>
     simp only[La,if_false,Wb]at e;subst e;exact⟨.Jc [],rfl,fun a hr _=>⟨_,by unfold stepG;simp only[i _ j a hr,Ja,La,if_false];rfl,Zi.rfl' _⟩⟩
    |true=>
     obtain⟨p,r,rfl⟩:=qm e;refine⟨p,rfl,fun a hr k=>⟨a.put d p,?_,Zi.rfl' _⟩⟩;obtain⟨z,k⟩:=k.1 rfl;unfold stepG;simp only[i _ j a hr,Ja,if_true,oa,y a hr x (by simp[Ea.xs]),k,GR z r,fd]
  ·cases c<;>try (cases C;done)
   case call f args=>
    obtain⟨s',hs,h⟩:=qb h;split at h
    case isFalse=>cases h
    rename_i w;cases h;obtain⟨t,u⟩:=w;refine⟨_,rfl,fun a hr k=>?_⟩;obtain⟨D,E,z3⟩:=k.2 rfl rfl;unfold stepG at hs⊢;obtain⟨b,j,e⟩:=qb hs;rw[i _ j a hr,Ja];cases b with
    |false=>
     grind [Zi.mk,St.Nd,St.put,Ae]
    |true=>
     simp only[if_true,oa]at e⊢;have:(args.map fun x=>(x.ev a.sl).jb)=args.map fun x=>(x.ev st.sl).jb:=rl fun x h=>by rw[y a hr x h]
     rw[this];exact zcs e t u D E z3
theorem yT{qs}{D}:∀(l)(st stk),Tf cf l st=some stk->l.Pairwise (fun o T=>∀d,T.dst=some d->d∉o.reads/\o.dst≠some d)->(∀o∈l,gt qs o.op=true/\o.dst.isSome=true/\∀d,o.dst=some d->d∉o.reads)->(∀d,d∈D ↔ ∃o∈l,o.dst=some d)->st.al=[]->
 stk.bx=st.bx/\stk.al=[]/\(∀L,L∈stk.ow ↔ L∈st.ow/\Cd D L=true)/\stk.ow=st.ow.filter (Cd D)/\(∀x,x∉D->look stk.sl x=look st.sl x)/\
 ∀o∈l,∀d,o.dst=some d->∀a,(∀x∈o.reads,look a.sl x=look stk.sl x)->Yw stk a o.op->∃s',stepG cf a o=some s'/\Zi (a.put d (look stk.sl d)) s'
 |[],st,stk,h,_,_,K,c=>by
  simp only[Tf,Wb]at h;have b:∀L,Cd D L=true:=fun L=>by
   cases L with
   |slot i=>grind [Bm]
   |cell=>rfl
  grind [List.filter_eq_self]
 |o::l,st,stk,h,G,E,K,c=>by
  obtain⟨s1,I,J⟩:=qb h;obtain⟨r,t,z⟩:=E o It;obtain⟨d,C⟩:=aB.1 t;obtain⟨p,rfl,j⟩:=zem r C I;rw[List.pairwise_cons]at G;obtain⟨b,M⟩:∃b:List Nat,b=l.filterMap (·.dst):=⟨_,rfl⟩;have k:∀x,x∈b ↔ ∃o∈l,o.dst=some x:=fun x=>by grind
  have e:(st.put d p).al=[]:=by simp[St.put,c,Jb]
  obtain⟨A,P,X,Q,R,S⟩:=yT (D:=b) l _ stk J G.2 (fun o N=>E o (kn _ N)) k e;have n:d∉b:=fun F=>by
   grind
  have B:∀L,Cd D L=(Cd b L&& !Vd d L):=fun L=>by
   cases L<;>grind [Cd,Vd]
  have u:look stk.sl d=p:=by rw[R d n];simp[St.put,Ae]
  refine⟨A,P,fun L=>?_,?_,fun x O=>?_,fun q y=>?_⟩
  ·grind [St.put,Va]
  ·grind [St.put,Va,List.filter_filter,List.filter_congr]
  ·grind [St.put,Ae]
  ·rcases wb.1 y with rfl|y
   ·intro W g a hr H
    rw[C]at g;cases g;rw[u];refine j a (fun x O=>?_) ⟨fun F=>?_,fun v w=>?_⟩
    ·grind [St.put,Ae]
    ·rw[<-show stk.bx=st.bx from A];exact H.1 F
    ·obtain⟨U,V,z3⟩:=H.2 v w
     refine⟨by rw[U];exact A,?_,z3⟩;rw[V,Q,bm];simp only[St.put,Va];rw[bm];apply uo;intro L _;cases L<;>simp[Da,Cd,Vd]
   ·exact S q y
end
instance:Inhabited Wa:=⟨⟨none,none,.alloc 0 []⟩⟩
def Ns(g:Nat->BT)(cs:List Wa):List Nat->BT
 |[]=>.done
 |[j]=>.one (cs.getD j default) (g j)
 |j::k::r=>.two (cs.getD j default) (g j) (Ns g cs (k::r))
def Nv(n:Nat)(b:List (List Nat))(ps a:List Nat):List Nat:=(List.range n).filter fun j=>!ps.contains j&&(!a.contains j&&(b.getD j []).all fun x=>ps.contains x||a.contains x)
def Bp(n:Nat)(a:List (List Nat))(ps:List Nat)(cs:List Wa):Nat->List Nat->BT
 |0,_=>.done
 |f+1,b=>Ns (fun j=>Bp n a ps cs f (j::b)) cs (Nv n a ps b)
def rb(cs:List Wa)(i:Nat):Wa:=cs.getD i default
def uy(qs:List FuncId)(ops:Array Oper)(cs:List Wa)(ps:List Nat):Bool:=
 let a:=zl ops
 let n:=ops.size
 cs.length==n&&
 (List.range n).all (fun i=>(ch ops i).all (·<i))&&
 ps.all (fun i=>decide (i<n)&&(gt qs (rb cs i).op&&(rb cs i).dst.isSome))&&
 ps.all (fun i=>(List.range n).all fun j=>i==j||(rb cs j).dst !=(rb cs i).dst)&&
 (List.range n).all (fun i=>(rb cs i).reads.all fun s=>ps.all fun j=>(rb cs j).dst !=some s||(decide (j<i)&&(a.getD i []).contains j))&&
 ps.all (fun i=>(rb cs i).reads.all fun s=>(List.range n).all fun j=>(rb cs j).dst !=some s||(ps.contains j||(a.getD j []).contains i))&&
 ps.all (fun i=>!vv (rb cs i).op||(List.range n).all fun j=>!hB (rb cs j).op||(ps.contains j||(a.getD j []).contains i))&&
 ps.all (fun i=>!hA qs (rb cs i).op||(List.range n).all fun j=>!GA (rb cs j).op||(ps.contains j||(a.getD j []).contains i))&&
 (List.range n).all (fun j=>ps.contains j||(match sB (rb cs j).op with|some s=>ps.all fun i=>(rb cs i).dst !=some s|none=>true))&&
 decide (ps.Pairwise (·<·))
section
variable {P:Program} {w w':World} {r:Option Nat} {a a':Act} {cf:Callee} {Γ:lf} {S:S0}
def Sv{α}{a b}{x:α}(h:same a b=some x):a=some x/\b=some x:=by
 grind [same]
theorem jP{live}{g}{cs}{s F}:∀(l),wd cf live (Ns g cs l) s=some F->∀j∈l,∃s',stepG cf s (rb cs j)=some s'/\wd cf live (g j) s'=some F
 |[],_,j,a=>by cases a
 |[i],h,j,a=>by
  obtain rfl:j=i:=na
  exact qb h
 |i::k::l,h,j,a=>by
  obtain⟨b,c⟩:=Sv h;rcases wb.1 a with rfl|a
  ·exact qb b
  ·exact jP (k::l) c j a
theorem K2{s s'}{d}{c}(g:hB c=false)(h:oa cf s d c=some s'):∃z,s'.bx=s.bx++z:=by
 have put:∀(d:Option Nat) v,(s.Nd d v).bx=s.bx++[]:=fun d v=>by cases d<;>simp[St.Nd,St.put]
 by_cases l:ik c=true
 ·grind [io,Option.map_eq_some_iff]
 cases c<;>try (exact absurd rfl l)
 case mvA x=>
  obtain⟨d,rfl,a⟩:=qb h;split at a
  ·cases a
  ·cases a;exact⟨[],by simp[St.put]⟩
 case asg x=>
  cases x with
  |c v=>exact absurd rfl l
  |t i=>
   simp only[oa]at h;cases d with
   |none=>cases h
   |some d=>
    dsimp only at h;split at h
    ·cases h
    ·split at h<;>(cases h;exact⟨[],by simp[St.put]⟩)
 case alloc e zs=>
  simp only[oa]at h
  grind [Option.map_eq_some_iff]
 case box e n x=>
  simp only[oa]at h
  grind [Option.bind_eq_some_iff]
 case mksl j n size zs ps=>
  obtain⟨d,rfl,a⟩:=qb h;obtain⟨cs,b,k⟩:=qb a;split at k
  ·cases k;exact⟨[],by simp[St.Ic]⟩
  grind
 case b2s x=>
  simp only[oa]at h
  grind [Option.map_eq_some_iff]
 case load k n x=>
  obtain⟨d,rfl,a⟩:=qb h;obtain⟨p,b,rfl⟩:=qm a;exact⟨[],by simp[St.put]⟩
 case loadA x=>
  obtain⟨d,rfl,a⟩:=qb h;split at a
  ·obtain⟨p,b,rfl⟩:=qm a
   exact⟨[],by simp[St.put]⟩
  grind
 case loadM x=>
  obtain⟨d,rfl,a⟩:=qb h;split at a
  ·obtain⟨p,b,a⟩:=qb a
   split at a
   ·cases a;exact⟨[],by simp[St.put]⟩
   grind
  grind
 case store=>cases g
 case append j size x y=>
  simp only[oa]at h;split at h
  ·split at h
   ·split at h
    ·obtain⟨d,rfl,rfl⟩:=qm h
     refine⟨[],?_⟩
     grind [St.put,St.Ic]
    grind
   grind
  ·split at h
   ·obtain⟨L,b,h⟩:=qb h
    obtain⟨d,rfl,h⟩:=qb h;split at h
    ·split at h
     ·cases h;simp
     ·cases h
    ·cases h
   grind
 case appendS x y=>
  simp only[oa]at h;split at h
  ·split at h
   ·split at h
    ·obtain⟨d,rfl,rfl⟩:=qm h
     refine⟨[],?_⟩
     grind [St.put,St.Ic]
    grind
   grind
  ·split at h
   ·obtain⟨L,b,h⟩:=qb h
    obtain⟨d,rfl,h⟩:=qb h;split at h
    ·split at h
     ·cases h;simp
     ·cases h
    grind
   grind
 case call=>cases g
 case callv=>cases g
 case calli=>cases g
def L2{s s'}{o}(d:hB o.op=false)(h:stepG cf s o=some s'):∃z,s'.bx=s.bx++z:=by
 obtain⟨b,c,a⟩:=qb h;cases b with
 |false=>
  simp only[La,if_false,Wb]at a;subst a;exact⟨[],by cases o.dst<;>simp[St.Nd,St.put]⟩
 |true=>grind [K2]
theorem KR{s s'}{d}{f}{az}(h:Lc cf s d f az=some s')(x)(a:d≠some x):look s'.sl x=look s.sl x:=by
 grind [Lc,Option.map_eq_some_iff,St.put,St.Ic,Ae]
theorem MG{s s'}{d}{f}{az}(h:Sc cf s d f az=some s')(x)(a:d≠some x):look s'.sl x=look s.sl x:=by
 grind [Sc,Option.bind_eq_some_iff,St.put,St.Ic,Ae,KR]
theorem m9{s s'}{d}{c}(h:oa cf s d c=some s')(x)(k:d≠some x):look s'.sl x=look s.sl x:=by
 have put:∀(d:Option Nat) v,d≠some x->look (s.Nd d v).sl x=look s.sl x:=fun d v u=>by
  cases d<;>grind [St.Nd,St.put,Ae]
 by_cases r:ik c=true
 ·grind [io,Option.map_eq_some_iff]
 have b:∀(d:Nat) v,some d≠some x->look ((d,v)::s.sl) x=look s.sl x:=fun d v u=>by
  grind [Ae]
 cases c<;>try (exact absurd rfl r)
 case mvA x=>
  obtain⟨d,rfl,j⟩:=qb h;split at j
  ·cases j
  ·cases j;exact b _ _ k
 case asg y=>
  cases y with
  |c v=>exact absurd rfl r
  |t i=>
   simp only[oa]at h;cases d with
   |none=>cases h
   |some d=>
    dsimp only at h;split at h
    ·cases h
    ·split at h<;>(cases h;exact b _ _ k)
 case alloc e zs=>
  obtain⟨d,rfl,rfl⟩:=qm h;exact b _ _ k
 case box e n x=>
  obtain⟨d,rfl,j⟩:=qb h;split at j
  ·cases j;exact b _ _ k
  grind
 case mksl l n size zs ps=>
  obtain⟨d,rfl,j⟩:=qb h;obtain⟨cs,o,q⟩:=qb j;split at q
  ·cases q;exact b _ _ k
  grind
 case b2s y=>
  simp only[oa]at h
  grind [Option.map_eq_some_iff]
 case load q n y=>
  obtain⟨d,rfl,j⟩:=qb h;obtain⟨p,o,rfl⟩:=qm j;exact b _ _ k
 case loadA y=>
  obtain⟨d,rfl,j⟩:=qb h;split at j
  ·obtain⟨p,o,rfl⟩:=qm j
   exact b _ _ k
  grind
 case loadM y=>
  obtain⟨d,rfl,j⟩:=qb h;split at j
  ·obtain⟨p,o,j⟩:=qb j
   split at j
   ·cases j;exact b _ _ k
   grind
  grind
 case store n a y=>
  simp only[oa]at h
  grind [Option.bind_eq_some_iff]
 case append l size y z=>
  simp only[oa]at h;split at h
  ·split at h
   ·split at h
    ·obtain⟨d,rfl,rfl⟩:=qm h
     split<;>exact b _ _ k
    grind
   grind
  grind [Option.bind_eq_some_iff]
 case appendS y z=>
  simp only[oa]at h;split at h
  ·split at h
   ·split at h
    ·obtain⟨d,rfl,rfl⟩:=qm h
     split<;>exact b _ _ k
    grind
   grind
  grind [Option.bind_eq_some_iff]
 case call f args=>
  simp only[oa]at h
  grind [MG]
 case callv g args=>
  simp only[oa]at h
  grind [MG,KR]
 case calli Eh g args=>
  simp only[oa]at h
  grind [MG,Option.bind_eq_some_iff]
theorem MR{s s'}{o}(h:stepG cf s o=some s')(x)(e:o.dst≠some x):look s'.sl x=look s.sl x:=by
 obtain⟨b,a,c⟩:=qb h;cases b with
 |false=>
  cases d:o.dst<;>grind [St.Nd,St.put,Ae]
 |true=>grind [m9]
theorem sV{s s'}{d}{c}(k:GA c=false)(h:oa cf s d c=some s'):s'.bx=s.bx/\s'.ow.filter Da=s.ow.filter Da/\((∀q∈s.al,Da q.2=false)->∀q∈s'.al,Da q.2=false):=by
 have e1:∀(d:Nat)(l:List Loc),(Va d l).filter Da=l.filter Da:=fun d l=>by
  unfold Va;rw[bm];apply uo;intro L _;cases L<;>simp[Da,Vd]
 have e2:∀(i:Nat)(l:List Loc),(.slot i::l:List Loc).filter Da=l.filter Da:=fun i l=>by rfl
 have e3:∀(d:Nat)(l:List (Nat×Loc)),(∀q∈l,Da q.2=false)->∀q∈Jb d l,Da q.2=false:=fun d l e q b=>e q (Yc.1 b).1
 have put:∀(d:Option Nat) v,(s.Nd d v).bx=s.bx/\(s.Nd d v).ow.filter Da=s.ow.filter Da/\((∀q∈s.al,Da q.2=false)->∀q∈(s.Nd d v).al,Da q.2=false):=fun d v=>by
  cases d with
  |none=>exact⟨rfl,rfl,id⟩
  |some d=>exact⟨rfl,e1 d _,e3 d _⟩
 by_cases g:ik c=true
 ·grind [io,Option.map_eq_some_iff]
 cases c<;>first|exact absurd rfl g|(cases k;done)|skip
 case mvA x=>
  obtain⟨d,rfl,a⟩:=qb h;split at a
  ·cases a
  ·cases a
   refine⟨rfl,e1 d _,fun e q b=>?_⟩;rcases wb.1 b with rfl|b
   ·rfl
   grind
 case asg x=>
  cases x with
  |c v=>exact absurd rfl g
  |t i=>
   simp only[oa]at h;cases d with
   |none=>cases h
   |some d=>
    dsimp only at h;split at h
    ·cases h
    ·split at h
     ·grind
     ·cases h
      exact put (some d) _
 case mksl j n size zs ps=>
  simp only[oa]at h
  grind [Option.bind_eq_some_iff,St.Ic]
 case b2s x=>
  simp only[oa]at h
  grind [Option.map_eq_some_iff]
 case load j n x=>
  obtain⟨d,rfl,a⟩:=qb h;obtain⟨p,o,rfl⟩:=qm a;exact put (some d) p
theorem ze5{s s'}{o}(g:GA o.op=false)(h:stepG cf s o=some s'):s'.bx=s.bx/\s'.ow.filter Da=s.ow.filter Da/\((∀q∈s.al,Da q.2=false)->∀q∈s'.al,Da q.2=false):=by
 obtain⟨b,e,a⟩:=qb h;cases b with
 |false=>
  simp only[La,if_false,Wb]at a;subst a;exact sV (cf:=cf) (s:=s) (d:=o.dst) (c:=.mv (.c (.Jc []))) rfl ra
 |true=>grind [sV]
def p4{cs}{j}(h:j<cs.length):cs[j]?=some (rb cs j):=by simp[rb,h]
theorem MO{qs}(hcf:xc P Γ cf)(hSZ:Good Γ S){ops}{ali}{cs}{ps}{Q}{Z stk}(hok:uy qs ops cs ps=true)
 (hco:∀(j:Nat)(c),cs[j]?=some c->∃o,ops[j]?=some o/\xo P S.nt ops ali o c) (hal:Z.al=[]) (hpre:Tf cf (ps.map (rb cs)) Z=some stk)
 {TP:BT->St->Prop} {Dies:Nat->St->Prop} (hmemT:∀(g)(s)(l),TP (Ns g cs l) s->∀j∈l,(∃s',stepG cf s (rb cs j)=some s'/\TP (g j) s')\/Dies j s) (hfin:∀s a w,TP .done s->Rl P S s a w->Q .normal a w)
 (hdies:∀j s,Dies j s->∀s1 o a w K,(∀x∈(rb cs j).reads,look s1.sl x=look s.sl x)->(∀x,(∀i∈ps,(rb cs i).dst≠some x)->look s1.sl x=look s.sl x)->s1.bx=s.bx->s1.ow.filter Da=s.ow.filter Da->xo P S.nt ops ali o (rb cs j)->Rl P S s1 a w->if Region.wanted o (yielded ops a.tmps)then o.wpIn (fw r) 0 P a w K Q else(∀f,o.about P w a.eval=some f->(fw r).fn f)/\K (a.put o.dst undef) w)
 (I:TP (Bp ops.size (zl ops) ps cs ops.size []) stk) (hr:Rl P S Z a w):wpAnyIn (fw r) 0 P .any ops Q ops.size (Array.replicate ops.size false) a w:=by
 unfold uy at hok;simp only[bc,decide_eq_true_eq,Bg,Ri,Sp,bne_iff_ne,ne_eq,beq_iff_eq,List.contains_iff_mem,Fw]at hok;obtain⟨⟨⟨⟨⟨⟨⟨⟨⟨hlen,hback⟩,A⟩,hdist⟩,C⟩,hwar⟩,J⟩,M⟩,hali⟩,hsort⟩:=hok;obtain⟨n,hnZ⟩:∃n,ops.size=n:=⟨_,rfl⟩;obtain⟨anZ,han⟩:∃anZ,zl ops=anZ:=⟨_,rfl⟩;rw[hnZ]at hlen hback A hdist C hwar J M hali I;rw[han]at C hwar J M I;have hdst:∀i∈ps,∃d,(rb cs i).dst=some d:=fun i y=>aB.1 (A i y).2.2
 obtain⟨D,hDe⟩:∃D:List Nat,D=ps.filterMap fun i=>(rb cs i).dst:=⟨_,rfl⟩
 have hDZ:∀d,d∈D ↔ ∃i∈ps,(rb cs i).dst=some d:=fun d=>by rw[hDe,Bw]
 have hself:∀i∈ps,∀d,(rb cs i).dst=some d->d∉(rb cs i).reads:=fun i y d W hmZ=>by
  grind
 obtain⟨f1Z,f2Z,f3Z,f4Z,f5Z,f6Z⟩:=yT (qs:=qs) (D:=D) (ps.map (rb cs)) Z stk hpre (by
  rw[List.pairwise_map];refine(List.Pairwise.and_mem.1 hsort).imp ?_
  grind) (fun o hoZ=>by
  obtain⟨i,y,rfl⟩:=si.1 hoZ;exact⟨(A i y).2.1,(A i y).2.2,hself i y⟩) (fun d=>by
  grind) hal
 have f7Z:∀i∈ps,∀d,(rb cs i).dst=some d->∀st2:St,(∀x∈(rb cs i).reads,look st2.sl x=look stk.sl x)->Yw stk st2 (rb cs i).op->∃s',stepG cf st2 (rb cs i)=some s'/\Zi (st2.put d (look stk.sl d)) s':=
  fun i y=>f6Z _ (si.2 ⟨i,y,rfl⟩)
 have hdn:∀j,j<n->j∉ps->∀d,(rb cs j).dst=some d->d∉D:=fun j p hpZ d W hmZ=>by
  grind
 obtain⟨Inv,E⟩:∃Inv:Array Bool->Act->World->Prop,Inv=fun b a w=>∃(f:Nat)(H:List Nat)(s s1:St),Rl P S s1 a w/\Part (fun x=>∃i∈ps,¬b.getD i false=true/\(rb cs i).dst=some x) D s1 s/\TP (Bp n anZ ps cs f H) s/\
  (∀j,j<n->j∉ps->(b.getD j false=true ↔ j∈H))/\((List.range n).filter fun j=>!ps.contains j&& !H.contains j).length<=f/\
  (∀i∈ps,¬b.getD i false=true->(∀x∈(rb cs i).reads,look s.sl x=look stk.sl x)/\Yw stk s (rb cs i).op)/\(∀i∈ps,∀d,(rb cs i).dst=some d->look s.sl d=look stk.sl d):=⟨_,rfl⟩
 have fin:∀(b:Array Bool)(a:Act)(w:World),(∀i,i<n->b.getD i false=true)->Inv b a w->Q .normal a w:=fun b a w F h=>by
  rw[E]at h;obtain⟨f,H,s,s1,U,u,h3Z,h4Z,h5Z,h6Z,h7Z⟩:=h;have N:Nv n anZ ps H=[]:=by
   unfold Nv;refine List.filter_eq_nil_iff.2 fun j p hcZ=>?_
   simp only[bc,Fw,List.contains_eq_mem,decide_eq_false_iff_not]at hcZ;have G:=Ri.1 p;exact hcZ.2.1 ((h4Z j G hcZ.1).1 (F j G))
  have t:Bp n anZ ps cs f H=.done:=by
   cases f with
   |zero=>rfl
   |succ f=>simp only[Bp,N,Ns]
  rw[t]at h3Z;have v:∀x,¬∃i∈ps,¬b.getD i false=true/\(rb cs i).dst=some x:=fun x ⟨i,y,T,_⟩=>T (F i (A i y).1)
  refine hfin s a w h3Z (U.congr (fun x=>(u.sl x (v x)).symm) (fun L O=>(u.own fun i _=>v i).2 O) (fun q hqZ=>by rw[u.al];exact hqZ) u.bx.symm)
 have main:∀(fuel:Nat)(b:Array Bool)(a:Act)(w:World),b.size=n->((List.range n).filter fun i=>!b.getD i false).length<=fuel->
  (∀i,i<n->b.getD i false=true->∀j∈ch ops i,b.getD j false=true)->Inv b a w->wpAnyIn (fw r) 0 P .any ops Q fuel b a w:=by
  intro fuel;have t:∀(b:Array Bool)(i j:Nat),i<b.size->((b.setIfInBounds i true).getD j false=true ↔ (b.getD j false=true\/j=i)):=fun b i j y=>by
   by_cases h:i=j
   ·subst h;simp[y]
   ·rw[getD_set_ne false h]
    exact⟨.inl,fun v=>v.resolve_right (Yf h)⟩
  have rdy:∀(b:Array Bool)(i:Nat),b.size=n->(i∈Region.ready .any ops b ↔ i<n/\¬b.getD i false=true/\∀j∈ch ops i,b.getD j false=true):=fun b i hzZ=>by
   rw[mem_ready];constructor
   ·rintro⟨U,o,hoZ,u⟩
    have y:=(Kh.1 hoZ).1;refine⟨aa,?_,fun j p=>?_⟩
    ·rw[po,Ht aa]at U⊢
     simp at U⊢;exact U
    ·unfold ch at p
     rw[hoZ]at p;obtain⟨e,N,v⟩:=Bw.1 p;split at v
     ·rename_i G;cases v;exact u e (by simpa using N) G
     ·cases v
   ·rintro⟨y,U,u⟩
    refine⟨?_,ops[i],Ht aa,fun e N G=>u _ ?_⟩
    ·grind
    ·unfold ch
     rw[Ht aa];exact Bw.2 ⟨e,by simpa using N,by rw[if_pos G]⟩
  have stuck:∀b:Array Bool,b.size=n->Region.ready .any ops b=[]->∀i,i<n->b.getD i false=true:=fun b hzZ hrd i=>by
   induction i using Nat.strongRecOn<;>grind
  induction fuel with
  |zero=>
   intro b a w hzZ hcZ _ Y;have F:∀i,i<n->b.getD i false=true:=fun i y=>by
    grind
   refine⟨?_,fin b a w F Y⟩;cases v:Region.ready .any ops b with
   |nil=>rfl
   |cons i r=>
    have:=(rdy b i hzZ).1 (by rw[v];simp);exact absurd (F i this.1) this.2.1
  |succ fuel ihZ=>
   intro b a w hzZ hcZ hcl Y;refine⟨fun h=>fin b a w (stuck b hzZ h) Y,fun i y=>?_⟩;obtain⟨G,hnl,hdir⟩:=(rdy b i hzZ).1 y;have hcl':∀i,b.getD i false=true->∀j∈ch ops i,b.getD j false=true:=fun i'Z h=>by
    by_cases fa:i'Z<n
    ·exact hcl i'Z fa h
    ·rw[po,Array.getElem?_eq_none aa]at h;cases h
   have hanc:∀x∈anZ.getD i [],b.getD x false=true:=by rw[<-han];exact zB hcl' aa hdir
   have hz2:(b.setIfInBounds i true).size=n:=by simp[hzZ]
   have hcnt:((List.range n).filter fun j=>!(b.setIfInBounds i true).getD j false).length<=fuel:=by
    have e1:((List.range n).filter fun j=>!(b.setIfInBounds i true).getD j false)=((List.range n).filter fun j=>!b.getD j false).filter (· !=i):=by
     rw[bm];apply uo;intro j _;have:=t b i j aa;by_cases R:j=i
     ·subst R
      have U:(b.setIfInBounds j true).getD j false=true:=this.2 (.inr rfl);rw[U];simp
     ·rw[getD_set_ne false (Yf R)];simp[R]
    have J:i∈(List.range n).filter fun i=>!b.getD i false:=Yc.2 ⟨Ri.2 G,by simpa using hnl⟩
    rw[e1];have:=VI.2 (show∃x∈(List.range n).filter (fun j=>!b.getD j false),¬((x !=i)=true)from⟨i,J,ea⟩);omega
   have hcl2:∀i'Z,i'Z<n->(b.setIfInBounds i true).getD i'Z false=true->∀j∈ch ops i'Z,(b.setIfInBounds i true).getD j false=true:=fun i'Z hi' h j p=>by
    rw[t b i _ aa]at h⊢;rcases h with h|rfl
    ·exact .inl (hcl i'Z hi' h j p)
    ·exact .inl (hdir j p)
   rw[E]at Y;obtain⟨f,H,s,s1,U,u,h3Z,h4Z,h5Z,h6Z,h7Z⟩:=Y;obtain⟨o,hoZ,V⟩:=hco i (rb cs i) (p4 aa);have hND:∀x,(∃i∈ps,¬b.getD i false=true/\(rb cs i).dst=some x)->x∈D:=fun x ⟨j,p,_,e⟩=>(hDZ x).2 ⟨j,p,e⟩
   have hrN:∀x∈(rb cs i).reads,¬∃j∈ps,¬b.getD j false=true/\(rb cs j).dst=some x:=fun x B ⟨j,p,T,e⟩=>by
    rcases C i G x B j p with h|⟨_,h⟩
    ·exact h e
    ·exact T (hanc j h)
   by_cases v:i∈ps
   ·
    obtain⟨d,W⟩:=hdst i v;obtain⟨g1,g2Z⟩:=h6Z i v hnl;obtain⟨sxZ,hst,N⟩:=f7Z i v d W s1 (fun x B=>by rw[u.sl x (hrN x B)];exact g1 x B) ⟨fun hmZ=>by rw[u.bx];exact g2Z.1 hmZ,fun hm1 X=>by rw[u.bx,u.cells,u.al];exact g2Z.2 hm1 X⟩;refine Tw hoZ (Zz hcf hSZ V hst U fun a' w' hr''=>ihZ _ a' w' hz2 hcnt hcl2 ?_);have hr':Rl P S (s1.put d (look stk.sl d)) a' w':=hr''.congr (fun x=>(N.sl x).symm) N.ow N.al N.bx.symm;rw[E];have O:d∈D:=(hDZ d).2 ⟨i,v,W⟩;refine⟨f,H,s,_,hr',⟨fun x B=>?_,?_,?_,u.bx,u.no,fun x hxD B hmZ=>?_⟩,h3Z,fun j p hjp=>?_,h5Z,fun j p T=>?_,h7Z⟩
    ·by_cases e:d=x
     ·subst e
      simp only[St.put,Ae,if_true];exact(h7Z i v d W).symm
     ·simp only[St.put,Ae]
      rw[if_neg e];refine u.sl x fun⟨j,p,T,e2⟩=>B ⟨j,p,?_,e2⟩
      rw[t b i j aa];rintro(h|rfl)
      ·exact T h
      ·rw[W]at e2;cases e2;omega
    ·have:((s1.put d (look stk.sl d)).ow).filter (Cd D)=s1.ow.filter (Cd D):=by
      show(Va d s1.ow).filter (Cd D)=_;unfold Va;rw[bm];apply uo;intro L _;cases L with
      |cell=>rfl
      |slot k=>
       simp only[Cd,Vd];by_cases e:k=d
       ·subst e;simp[O]
       ·simp[e]
     rw[this,u.ow]
    ·show Jb d s1.al=s.al
     rw[u.al];refine VA.2 fun q hqZ=>?_
     obtain⟨k1Z,k2Z⟩:=u.no q hqZ;have e1:q.1≠d:=fun e=>k1Z (e▸O)
     have e2:Vd d q.2=false:=by
      cases hq2:q.2 with
      |cell=>rfl
      |slot k=>
       rw[hq2,Bm]at k2Z;simp only[Vd,beq_eq_false_iff_ne,ne_eq];exact fun e=>k2Z (e▸O)
     simp[e1,e2]
    ·have X:.slot x∈Va d s1.ow:=hmZ
     obtain⟨m1Z,m2Z⟩:=Yc.1 X;by_cases e:x=d
     ·subst e;simp[Vd]at m2Z
     ·refine u.un x hxD (fun⟨j,p,T,e2⟩=>B ⟨j,p,?_,e2⟩) m1Z
      rw[t b i j aa];rintro(h|rfl)
      ·exact T h
      ·rw[W]at e2;cases e2;omega
    ·rw[t b i j aa,h4Z j p hjp]
     exact⟨fun h=>h.resolve_right fun e=>hjp (e▸v),.inl⟩
    ·exact h6Z j p fun h=>T ((t b i j aa).2 (.inl h))
   ·
    have N:i∉H:=fun h=>hnl ((h4Z i G v).2 h)
    have hrdy:i∈Nv n anZ ps H:=by
     unfold Nv;refine Yc.2 ⟨Ri.2 G,?_⟩;simp only[bc,Fw,List.contains_eq_mem,decide_eq_false_iff_not,Bg,Sp,decide_eq_true_eq];refine⟨v,N,fun x B=>?_⟩;by_cases hxp:x∈ps
     ·exact .inl hxp
     ·grind
    have hfp:0<f:=by
     have:i∈(List.range n).filter fun j=>!ps.contains j&& !H.contains j:=Yc.2 ⟨Ri.2 G,by simp[v,N]⟩
     have:=List.length_pos_of_mem this;omega
    obtain⟨f,rfl⟩:∃f',f=f'+1:=⟨f - 1,aa⟩;simp only[Bp]at h3Z;rcases hmemT _ s _ h3Z i hrdy with⟨s',k1Z,k2Z⟩|hdie
    case inr=>exact Tw hoZ (hdies i s hdie s1 o a w _ (fun x B=>u.sl x (hrN x B)) (fun x B=>u.sl x fun⟨i'Z,hi',_,e⟩=>B i'Z hi' e) u.bx u.cells V U)
    have O:∀x,(rb cs i).dst=some x->x∉D:=fun x B=>hdn i G v x B
    obtain⟨s1',k3Z,k4Z⟩:=frame u hND O hrN (fun x B hxD=>by
     obtain⟨j,p,e⟩:=(hDZ x).1 hxD;rcases hali i G with h|h
     ·exact v h
     ·rw[B]at h;simp only[Bg,bne_iff_ne,ne_eq]at h;exact h j p e) k1Z
    refine Tw hoZ (Zz hcf hSZ V k3Z U fun a' w' hr'=>ihZ _ a' w' hz2 hcnt hcl2 ?_);rw[E];have hNe:(fun x=>∃j∈ps,¬(b.setIfInBounds i true).getD j false=true/\(rb cs j).dst=some x)=fun x=>∃j∈ps,¬b.getD j false=true/\(rb cs j).dst=some x:=by
     funext x;apply propext;constructor
     ·rintro⟨j,p,T,e⟩
      exact⟨j,p,fun h=>T ((t b i j aa).2 (.inl h)),e⟩
     ·grind
    refine⟨f,i::H,s',s1',hr',by rw[hNe];exact k4Z,k2Z,fun j p hjp=>?_,?_,fun j p T=>?_,fun j p d W=>?_⟩
    ·rw[t b i j aa,h4Z j p hjp,wb]
     exact Or.comm
    ·have e1:((List.range n).filter fun j=>!ps.contains j&& !(i::H).contains j)=((List.range n).filter fun j=>!ps.contains j&& !H.contains j).filter (· !=i):=by
      rw[bm];apply uo;intro j _;by_cases R:j=i
      ·subst R;simp
      ·simp[R]
     have hmem2:i∈(List.range n).filter fun j=>!ps.contains j&& !H.contains j:=Yc.2 ⟨Ri.2 G,by simp[v,N]⟩
     rw[e1];have:=VI.2 (show∃x∈(List.range n).filter (fun j=>!ps.contains j&& !H.contains j),¬((x !=i)=true)from⟨i,hmem2,ea⟩);omega
    ·have hl0:¬b.getD j false=true:=fun h=>T ((t b i j aa).2 (.inl h))
     obtain⟨g1,g2Z⟩:=h6Z j p hl0;refine⟨fun x B=>?_,fun hmZ=>?_,fun hm1 X=>?_⟩
     ·grind [MR]
     ·obtain⟨z,hzZ⟩:=g2Z.1 hmZ
      obtain⟨z2Z,hz2⟩:=L2 (o:=rb cs i) (by
       grind) k1Z
      exact⟨z++z2Z,by rw[hz2,hzZ,vc]⟩
     ·obtain⟨z1Z,z2Z,z3⟩:=g2Z.2 hm1 X
      grind [gt,ze5]
    ·rw[MR k1Z d fun e=>O d e ((hDZ d).2 ⟨j,p,W⟩)]
     exact h7Z j p d W
 rw[hnZ];refine main n _ a w ea (Xf (List.length_filter_le _ _) ea) (fun i y h=>by simp[y]at h) ?_;have hnot:∀i,¬(Array.replicate n false).getD i false=true:=fun i h=>by
  by_cases p:i<n<;>simp[p]at h
 rw[E];refine⟨n,[],stk,Z,hr,⟨fun x B=>?_,f4Z.symm,by rw[f2Z,hal],f1Z.symm,(fun q hqZ=>by rw[f2Z]at hqZ;cases hqZ),fun x hxD B=>?_⟩,I,fun j _ _=>⟨fun h=>absurd h (hnot j),fun h=>by cases h⟩,Xf (List.length_filter_le _ _) ea,fun i y _=>⟨fun x B=>rfl,fun _=>⟨[],ea⟩,fun _ _=>⟨rfl,rfl,fun q hqZ=>by rw[f2Z]at hqZ;cases hqZ⟩⟩,fun i y d W=>rfl⟩
 ·refine(f5Z x fun hmZ=>B ?_).symm
  obtain⟨i,y,e⟩:=(hDZ x).1 hmZ;exact⟨i,y,hnot i,e⟩
 ·grind
def v1{qs}(k:xc P Γ cf)(u:Good Γ S){ops}{ali}{cs}{ps live}{Q}{d stk F}(p:uy qs ops cs ps=true)
 (n:∀(j:Nat)(c),cs[j]?=some c->∃o,ops[j]?=some o/\xo P S.nt ops ali o c) (i:d.al=[]) (e:Tf cf (ps.map (rb cs)) d=some stk) (b:wd cf live (Bp ops.size (zl ops) ps cs ops.size []) stk=some F) (hr:Rl P S d a w)
 (q:∀s a' w',s.Ye live=F->Rl P S s a' w'->Q .normal a' w'):wpAnyIn (fw r) 0 P .any ops Q ops.size (Array.replicate ops.size false) a w:=
 MO k u p n i e (TP:=fun t s=>wd cf live t s=some F) (Dies:=fun _ _=>False) (fun g s l h j v=>.inl (jP l h j v)) (fun s a w h hr=>q s a w (by grind [wd]) hr) (fun _ _ h=>h.elim) b hr
end
def Vr(o:Oper):Option Nat:=match o.op with
 | .call {callee:=.builtin .append,args,.. }=>match args.toList with
   | .tmp t::_=>some t
   |_=>none
 |_=>none
def vN(P:Program)(nt:Nat)(ops:Array Oper)(a:Bool):Option (List Wa×List Wa):=
 (ops.toList.mapM (Jk P nt ops (ops.toList.filterMap Vr))).bind fun cs=>
   if a then((List.range' 1 cs.length).find? fun k=>sy ops ((List.zipWith zq ops.toList cs).take k++cs.drop k) k).map fun k=>((List.zipWith zq ops.toList cs).take k,cs.drop k)else some ([],cs)
def HH(qs:List FuncId)(ops:Array Oper)(cs:List Wa):List Nat:=
 let a:=zl ops
 (List.range cs.length).foldl (fun ps i=>if gt qs (rb cs i).op&&((rb cs i).dst.isSome&&((ch ops i).all (fun j=>ps.contains j)&&
   ((!vv (rb cs i).op||(List.range cs.length).all fun j=>!hB (rb cs j).op||(ps.contains j||(a.getD j []).contains i))&&((!hA qs (rb cs i).op||(List.range cs.length).all fun j=>i==j||(!GA (rb cs j).op||(hA qs (rb cs j).op||(a.getD j []).contains i)))&&
   ((List.range cs.length).all fun j=>i==j||((rb cs j).dst !=(rb cs i).dst&&(ps.contains j||((a.getD j []).contains i||(rb cs i).reads.all fun s=>(rb cs j).dst !=some s))))))))then ps++[i]else ps) []
def SG(qs:List FuncId)(ops:Array Oper)(c:Wa):Wa:=match c.op with
 | .loadA y=>if(ops.toList.any fun o=>match o.op with
  | .call {callee:=.value (.func f),.. }=>qs.contains (f+kb)
  |_=>false)=true then{c with op:=.loadM y}else c
 |_=>c
theorem VR{P}{nt}{qs}{ops}{ali}{o}{c}(h:Jk P nt ops ali o=some c):xo P nt ops ali o (SG qs ops c):=by
 unfold SG;split
 ·rename_i y e
  split
  ·right;left
   refine⟨y,rfl,?_⟩;obtain⟨dst,g,op⟩:=c
   grind
  ·exact .inl h
 ·exact .inl h
def nu(P:Program)(qs:List FuncId)(nt:Nat)(ops:Array Oper):Option (List Wa×BT):=
 ((ops.toList.mapM (Jk P nt ops (ops.toList.filterMap Vr))).map fun cs=>cs.map (SG qs ops)).bind fun cs=>
   if uy qs ops cs (HH qs ops cs)then some ((HH qs ops cs).map (rb cs),Bp ops.size (zl ops) (HH qs ops cs) cs ops.size [])else none
def x4(qs:List FuncId)(ops:Array Oper):Bool:=ops.toList.any fun o=>match o.op with
 | .call {callee:=.value (.func f),.. }=>qs.contains f||qs.contains (f+kb)
 | .alloc t=>qs.contains (t+kb+kb)
 |_=>false
def bD(P:Program)(qs:List FuncId)(nt:Nat)(ops:Array Oper)(a:Bool)(l:List Nat):Option ka:=
 if(a&&x4 qs ops)=true then(nu P qs nt ops).map fun q=>.Od l q.1 q.2 else match vN P nt ops a with
  |some q=>some (.Ab l q.1 q.2)
  |none=>if a then(nu P qs nt ops).map fun q=>.Od l q.1 q.2 else none
def Lp:ka:=.cond (.c .Hd) .skip .skip
theorem cp{cf}{n}{st}{r}(h:ma cf n Lp st=some r):False:=by
 grind [Lp,ma,X.ev]
def de(P:Program)(qs:List FuncId)(f nt:Nat):Nat->List (List Nat)->Code->Option (ka×List (List Nat))
 |_,lv,.skip=>some (.skip,lv)
 |_,l::lv,.region _ ops d=>match bD P qs nt ops d l with
  |some c=>some (c,lv)
  |none=>some (Lp,lv)
 |k,lv,.seq a b=>(de P qs f nt k lv a).bind fun q=>(de P qs f nt (k+(Yb a).length) q.2 b).map fun r=>(.seq q.1 r.1,r.2)
 |k,lv,.cond c a b=>(yb c).bind fun x=>(de P qs f nt k lv a).bind fun q=>(de P qs f nt (k+(Yb a).length) q.2 b).map fun r=>(.cond x q.1 r.1,r.2)
 |k,lv,.block id b=>(de P qs f nt k lv b).map fun q=>(.block id q.1,q.2)
 |k,lv,.scope b=>de P qs f nt k lv b
 |_,lv,.label _=>some (.skip,lv)
 |k,l::lv,.loop b=>(de P qs f nt k lv b).map fun q=>(.loop l q.1,q.2)
 |k,l::lv,.rangeFunc g _ _ _=>(yb g).map fun x=>(.range f k l x,lv)
 |_,l::lv,.exit id=>some (.exit id l,lv)
 |_,l::lv,.ret=>some (.ret l,lv)
 |_,lv,_=>some (Lp,lv)
def cD(P:Program)(qs:List FuncId)(f nt k:Nat)(lv:List (List Nat))(q:Operand×Array Tmp×Code×Code):Option (List Nat×ka×ka):=
 if q.2.1.toList.all (·<nt)then(de P qs f nt (k+1) lv q.2.2.1).bind fun c=>(de P qs f nt (k+1+(Yb q.2.2.1).length) c.2 q.2.2.2).map fun d=>(q.2.1.toList,c.1,d.1)else none
def ou(P:Program)(qs:List FuncId)(f nt:Nat):Nat->List (List (List Nat))->List (Operand×Array Tmp×Code×Code)->Option (List (List Nat×ka×ka))
 |_,_,[]=>some []
 |k,lv::er,q::r=>(cD P qs f nt k lv q).bind fun c=>(ou P qs f nt (k+1) er r).map (c::·)
 |_,[],_::_=>none
def Dm(P:Program):ResultVar->Option (Sum Nat (Nat×Bool×Nat))
 | .tmp t=>some (.inl t)
 | .cell t ty=>(Me P ty).bind fun g=>(Rg P ty).bind fun n=>if g=true\/n=1 then some (.inr (t,g,n))else none
structure Lv where
 main:List (List Nat)
 bo:List (List (List Nat))
 qs:List FuncId
def Cm(P:Program)(lv:Lv)(f:FuncId):Option pa:=match P.funcs[f]? with
 |some fn=>match fn.body with
  |some b=>if fn.name != "runtime.NumGoroutine" then(de P lv.qs f fn.ntmps 0 lv.main b).bind fun q=>(ou P lv.qs f fn.ntmps 0 lv.bo (Yb b)).bind fun rg=>(fn.results.toList.mapM (Dm P)).map fun rs=>⟨fn.ntmps,rs,q.1,rg⟩else none
  |none=>none
 |none=>none
theorem xN{P}{qs}{f nt}:∀{l}{k}{er}{r},ou P qs f nt k er l=some r->∀(j)(c),r[j]?=some c->∃q lv,l[j]?=some q/\cD P qs f nt (k+j) lv q=some c
 |[],k,er,r,h,j,c,a=>by grind [ou]
 |q::l,k,[],r,h,j,c,a=>by grind [ou]
 |q::l,k,lv::er,r,h,j,c,a=>by
  obtain⟨e,g,h⟩:=qb h;obtain⟨r',b,rfl⟩:=qm h;cases j with
  |zero=>grind
  |succ j=>
   obtain⟨o,d,i,n⟩:=xN b j c na
   grind
def Out.ex:Out->Exit
 | .normal=>.normal
 | .exit id=>.exit id
 | .ret=>.ret
section
variable {P:Program} {qs:List FuncId} {w w':World} {r:Option Nat} {Fr Fr':Nat→Nat} {β β':List Nat} {T:List Deferred} {base nt:Nat} {M:Nat→Prop} {w0:World} {F0:Nat→Nat} {st st':St} {a a':Act} {cf:Callee} {Γ:lf} {S:S0}
mutual
theorem zz{nb:Nat}:∀(p:PV)(v:Value),p.low nb=true->Rd w Fr β p v->Rd w Fr (β.take nb) p v
 | .Hd,_,_,_=>by simp[Rd]
 | .flat u,v,_,k=>by grind [Rd]
 | .ia n cs,v,h,k=>by
   obtain⟨b,d,a,e,i⟩:=k;refine⟨b,d,a,e,i.imp id ?_⟩;rintro⟨g,o,vs,j,hr,hs,c⟩;exact⟨g,o,vs,j,hr,xp cs vs h hs,c⟩
 | .agg cs,v,h,k=>by
   obtain⟨vs,a,hs,c⟩:=k;exact⟨vs,a,xp cs vs h hs,c⟩
 | .Jc cs,v,h,k=>by
   obtain⟨vs,a,hs⟩:=k;exact⟨vs,a,xp cs vs h hs⟩
 | .ptr b o,v,h,k=>by
   grind [Rd,PV.low]
 | .vd cs,v,h,k=>by
   obtain⟨g,o,vs,a,hr,hs,c⟩:=k;exact⟨g,o,vs,a,hr,xp cs vs h hs,c⟩
 | .ib f cs,v,h,k=>by
   obtain⟨vs,a,hs⟩:=k;exact⟨vs,a,xp cs vs h hs⟩
 | .tag f cs,v,h,k=>by
   obtain⟨vs,a,hs⟩:=k;exact⟨vs,a,xp cs vs h hs⟩
 | .Sa b,v,h,k=>by
   grind [Rd,PV.low]
 | .ve b d n,v,h,k=>by
   grind [Rd,PV.low]
 | .lp _ _ _ _ _,v,h,k=>by grind [Rd]
theorem xp{nb:Nat}:∀(ps:List PV)(vs:List Value),Ia nb ps=true->ta w Fr β ps vs->ta w Fr (β.take nb) ps vs
 |[],vs,_,k=>by grind [ta]
 |p::ps,vs,h,k=>by
  simp only[Ia,bc]at h;obtain⟨v,r,a,e,i⟩:=k;exact⟨v,r,a,zz p v h.1 e,xp ps r h.2 i⟩
end
theorem NR{nb}:∀(live:List Nat)(a)(i),Ia nb a=true->(look (live.zip a) i).low nb=true
 |[],_,i,_=>by rfl
 |_::_,[],i,_=>by rfl
 |j::live,p::a,i,h=>by
  simp only[Ia,bc]at h;rw[List.zip_cons_cons,Ae];split
  ·exact h.1
  ·exact NR live a i h.2
theorem Bk.low{nb}{cs}{g}(h:Bk P w Fr β cs g)(o:Ia nb cs.2=true):Bk P w Fr (β.take nb) cs g:=by
 rcases h with⟨vs,e,b,c,d⟩|⟨f,k,s,live,a,j,r,b,c,d,l,n⟩
 ·exact .inl ⟨vs,e,b,xp cs.2 vs o c,d⟩
 ·refine .inr ⟨f,k,s,live,a,j,r,b,c,d,l,fun i=>zz _ _ (NR live a i ?_) (n i)⟩
  grind [Ia,PV.low]
theorem Rel.cut(R:Rel P T base M w0 F0 nt st a w Fr β){nb}(y:∀i,look st'.sl i=.Hd\/(look st'.sl i=look st.sl i/\(look st.sl i).low nb=true))(n:st'.bx=st.bx.take nb)(o:∀cs∈st.bx.take nb,Ia nb cs.2=true)
 (k:∀L∈st'.ow,L∈st.ow/\(∀i,L=.slot i->look st'.sl i=look st.sl i)/\(∀b j,L=.cell b j->b<nb)) (F:st'.al=[]):Rel P T base M w0 F0 nt st' a w Fr (β.take nb):=by
 have d:∀L∈st'.ow,∀v,Ga a w (β.take nb) L=some v->Ga a w β L=some v:=fun L e v h=>by
  cases L<;>grind [Ga]
 have B:∀L∈st'.ow,∀v,Ga a w β L=some v->Ga a w (β.take nb) L=some v:=fun L e v h=>by
  cases L<;>grind [Ga]
 have J:∀L∈st'.ow,∀p,bb st L=some p->bb st' L=some p:=fun L e p h=>by
  cases L<;>grind [bb]
 refine⟨fun i=>?_,R.nt,R.df,⟨by rw[n,Se,Se,R.bx.1],fun b cs c=>?_⟩,R.nd.sublist (List.take_sublist _ _),fun L e=>?_,fun L e r l x v D g z A=>R.sep L (k L e).1 r (k r l).1 x v D g (d L e v z) (d r l D A),fun L e v g z u I=>R.out L (k L e).1 v g (d L e v z) u (RA I),(fun q K=>by grind),fun g u=>?_,R.old,R.ge,R.os,R.tape,R.output⟩
 ·rcases y i with h|⟨C,t⟩
  ·grind [Rd]
  ·rw[C];exact zz _ _ t (R.sl i)
 ·rw[n]at c
  have G:b<nb:=by
   have:=(qg c).1;rw[Se]at this;omega
  have H:=o cs (nh c);rw[Ew G]at c;obtain⟨g,C,t,E⟩:=R.bx.2 b cs c;exact⟨g,na,t,E.low H⟩
 ·obtain⟨v,p,E,G,H⟩:=R.own L (k L e).1
  grind
 ·refine R.may g (u.imp RA ?_)
  grind
def Rel.Au(R:Rel P T base M w0 F0 nt st a w Fr β)(j:∀i,look st'.sl i=.Hd\/look st'.sl i=look st.sl i)(n:st'.bx=st.bx)(b:∀L∈st'.ow,L∈st.ow/\∀i,L=.slot i->look st'.sl i=look st.sl i)(l:st'.al=[]):Rel P T base M w0 F0 nt st' a w Fr β:=by
 have e:∀L∈st'.ow,bb st' L=bb st L:=fun L c=>by
  cases L<;>grind [bb]
 exact⟨fun i=>by
  rcases j i with h|h
  ·grind [Rd]
  ·rw[h];exact R.sl i,R.nt,R.df,by grind [bx],R.nd,fun L c=>by rw[e L c];exact R.own L (b L c).1,fun L c k d=>R.sep L (b L c).1 k (b k d).1,fun L c=>R.out L (b L c).1,(fun q t=>by grind),
  fun g o=>R.may g (o.imp id fun⟨L,p,r⟩=>⟨L,(b L p).1,r⟩),R.old,R.ge,R.os,R.tape,R.output⟩
theorem xz(sl):∀(l:List Nat)(i),look (l.map fun j=>(j,look sl j)) i=if i∈l then look sl i else .Hd
 |[],i=>rfl
 |j::l,i=>by
  rw[gc,Ae,xz sl l i]
  grind
def vR{S:S0}(h:Le S.sw S.sF S.sβ w Fr β):S.sβ.length<=β.length:=by
 rcases Mh β.length S.sβ.length with a|a
 ·have:=h.box β.length _ (qe a)
  grind
 omega
theorem Rl.qr(h:Rl P S st a w)(live){nb}(p:S.sβ.length<=nb):Rl P S (st.qr live nb) a w:=by
 obtain⟨Fr,β,R,d⟩:=h;have v:∀i,look (st.qr live nb).sl i=if i∈live then look st.sl i else .Hd:=fun i=>xz st.sl live i
 have c:∀L,L∈(st.qr live nb).ow->L∈st.ow/\(∀i,L=.slot i->i∈live)/\∀b j,L=.cell b j->b<(trim nb (live.map (look st.sl)) st.bx).length:=fun L k=>by
  grind [St.qr]
 by_cases n:(trim nb (live.map (look st.sl)) st.bx)=st.bx
 ·refine⟨Fr,β,R.Au (fun i=>?_) n (fun L k=>⟨(c L k).1,fun i e=>?_⟩) rfl,d⟩
  ·grind
  grind
 ·have u:Ia nb (live.map (look st.sl))=true/\(st.bx.take nb).all (fun q=>Ia nb q.2)=true/\trim nb (live.map (look st.sl)) st.bx=st.bx.take nb:=by
   unfold trim at n⊢;split at n
   ·grind
   ·grind
  obtain⟨A,x,y⟩:=u;have r:∀(l:List Nat),Ia nb (l.map (look st.sl))=true->∀i∈l,(look st.sl i).low nb=true:=by
   intro l
   induction l with
   |nil=>simp
   |cons j l z=>
    grind [Ia]
  refine⟨Fr,β.take nb,R.cut (nb:=nb) (fun i=>?_) y (fun cs o=>Bg.1 x cs o) (fun L k=>⟨(c L k).1,fun i e=>?_,fun b j e=>?_⟩) rfl,⟨d.size,d.fr,d.cell,fun i g t=>?_,d.lp⟩⟩
  ·grind
  ·grind
  ·grind
  ·have:i<nb:=mh (qg t).1 p
   rw[Ew this];exact d.box i g t
theorem Rl.only(h:Rl P S st a w)(live){nb}(b:S.sβ.length<=nb):Rl P S (st.only live nb) a w:=(h.ck live).qr live b
theorem sv{α γ:Type}{f}:∀{l:List α}{r},l.mapM f=some r->r.length=l.length/\∀(j:Nat)(c:γ),r[j]?=some c->∃o,l[j]?=some o/\f o=some c
 |[],r,h=>by grind
 |x::l,r,h=>by
  rw[Qp]at h;obtain⟨y,d,h⟩:=qb h;obtain⟨s,hs,h⟩:=qb h;cases h;obtain⟨a,b⟩:=sv hs
  grind
theorem zb6(J:P.follows .mixedOrders=true)(e:xc P Γ cf)(A:Good Γ S){id}{ops}{b}{q}(d:vN P S.nt ops b=some q){stk stF}(z:tg cf q.1 st=some stk)(D:Hc cf q.2 stk=some stF)
 (v:st.al=[]) (hr:Rl P S st a w) {Q} (E:∀a' w',Rl P S stF a' w'->Q .normal a' w'):(Code.region id ops b).wpIn (fw r) 0 P Q a w:=by
 obtain⟨cs,x,d⟩:=qb d;obtain⟨C,B⟩:=sv x;have g:∀(j:Nat)(c:Wa),cs[j]?=some c->∃o,ops[j]?=some o/\Jk P S.nt ops (ops.toList.filterMap Vr) o=some c:=fun j c i=>by
  grind
 cases b with
 |false=>
  simp only[La,if_false,Wb]at d;subst d;simp only[tg,Wb]at z;subst z;refine wpIn_region ?_;have:=oU (r:=r) (rest:=[]) e A (Q:=Q) cs 0 st a w (fun j c i=>by rw[ld];exact g j c i) D hr (fun a' w' n=>by grind [wpOpsIn])
  grind [List.range_eq_range']
 |true=>
  obtain⟨k,G,rfl⟩:=qm d;have l:=List.find?_some G;have p:(List.zipWith zq ops.toList cs).length=cs.length:=by rw[List.length_zipWith];omega
  have H:k<=cs.length:=by
   have u:=l;unfold sy at u;simp only[bc,decide_eq_true_eq]at u;have t:=u.1.1.1.1.1;rw[Ba,Se,fc,p]at t;omega
  have y:((List.zipWith zq ops.toList cs).take k).length=k:=by rw[Se,p];omega
  have h:∀(j:Nat)(c:Wa),((List.zipWith zq ops.toList cs).take k++cs.drop k)[j]?=some c->∃o,ops[j]?=some o/\xo P S.nt ops (ops.toList.filterMap Vr) o c:=fun j c i=>by
   by_cases t:j<k
   ·grind [x0]
   ·rw[Pf aa,y,kg,show k+(j - k)=j by omega]at i
    obtain⟨o,u,F⟩:=g j c i;exact⟨o,u,.inl F⟩
  refine wpIn_region_any J ?_;have n:Rl P S st a {w with drawn:=w.drawn+1}:=by
   obtain⟨Fr,β,R,I⟩:=hr;have F:Below w.heap.size w {w with drawn:=w.drawn+1}:=⟨rfl,rfl,rfl,Aa _,fun _ _=>rfl⟩;obtain⟨u,t⟩:=R.grow F (Fr':=Fr) (fun _ _=>rfl);exact⟨Fr,β,u,I.trans t⟩
  refine w1 e A l na h v (stk:=stk) (stF:=stF) ?_ ?_ n E
  ·grind
  grind
def zb3(B:P.follows .mixedOrders=true)(g:xc P Γ cf)(y:Good Γ S){id}{ops}{qs}{q}(b:nu P qs S.nt ops=some q){live}{stk F}(u:Tf cf q.1 st=some stk)(v:wd cf live q.2 stk=some F)
 (e:st.al=[]) (hr:Rl P S st a w) {Q} (x:∀s a' w',s.Ye live=F->Rl P S s a' w'->Q .normal a' w'):(Code.region id ops true).wpIn (fw r) 0 P Q a w:=by
 obtain⟨cs,d,b⟩:=qb b;obtain⟨t,h,rfl⟩:=qm d;obtain⟨o,n⟩:=sv h;split at b
 case isFalse=>cases b
 rename_i k;cases b;refine wpIn_region_any B ?_;have l:Rl P S st a {w with drawn:=w.drawn+1}:=by
  obtain⟨Fr,β,R,A⟩:=hr;have z:Below w.heap.size w {w with drawn:=w.drawn+1}:=⟨rfl,rfl,rfl,Aa _,fun _ _=>rfl⟩;obtain⟨p,i⟩:=R.grow z (Fr':=Fr) (fun _ _=>rfl);exact⟨Fr,β,p,A.trans i⟩
 exact v1 g y (ali:=ops.toList.filterMap Vr) k (fun j c C=>by
  grind [VR]) e u v l x
theorem Ay{live}:∀(t)(s F),wd cf live t s=some F->F.al=[]
 | .done,s,F,h=>by simp only[wd,Wb]at h;subst h;rfl
 | .one o t,s,F,h=>by
   obtain⟨s',_,a⟩:=qb h;exact Ay t s' F a
 | .two o t r,s,F,h=>by
   exact Ay r s F (Sv h).2
theorem eP{body}{live}{nb}(c:∀st o st',body st=some (o,st')->st.al=[]->st'.al=[]):∀(n)(st)(o)(st'),Ac body live nb n st=some (o,st')->st.al=[]->st'.al=[]
 |0,_,_,_,h,_=>by cases h
 |n+1,st,o,st',h,b=>by
  obtain⟨⟨d,s1⟩,e,a⟩:=qb h;cases d with
  |normal=>exact eP c n _ o st' a rfl
  |exit id=>grind
  |ret=>grind
theorem B2{f k}{live}{g}{o}(h:Lk cf f k live g st=some (o,st'))(a:st.al=[]):st'.al=[]:=by
 unfold Lk at h
 grind [Option.bind_eq_some_iff,Lc]
theorem Hm{n}:∀(c)(st)(o)(st'),ma cf n c st=some (o,st')->st.al=[]->st'.al=[]
 | .skip,st,o,st',h,d=>by cases h;exact d
 | .Ab live pre j,st,o,st',h,d=>by
   obtain⟨s,_,h⟩:=qm h;cases h;rfl
 | .Od live pre t,st,o,st',h,d=>by
   grind [ma,Option.map_eq_some_iff,Option.bind_eq_some_iff,Ay]
 | .seq a b,st,o,st',h,d=>by
   obtain⟨⟨i,s1⟩,l,e⟩:=qb h;have p:=Hm a st i s1 l d;cases i with
   |normal=>exact Hm b s1 o st' e p
   |exit id=>grind
   |ret=>grind
 | .cond x a b,st,o,st',h,d=>by
   simp only[ma]at h;split at h
   ·split at h
    ·exact Hm a st o st' h d
    ·exact Hm b st o st' h d
   grind
 | .block id b,st,o,st',h,d=>by
   obtain⟨⟨i,s1⟩,l,e⟩:=qm h;have p:=Hm b st i s1 l d;cases i with
   |normal=>cases e;rfl
   |exit j=>
    dsimp only at e;split at e
    ·cases e;rfl
    grind
   |ret=>grind
 | .loop live b,st,o,st',h,_=>by
   exact eP (fun st o st' h d=>Hm b st o st' h d) n _ o st' h rfl
 | .range f k live g,st,o,st',h,d=>by
   grind [ma,B2]
 | .exit id live,st,o,st',h,d=>by cases h;rfl
 | .ret live,st,o,st',h,d=>by cases h;rfl
theorem Rl.Xq(h:Rl P S st a w)(live):Rl P S (st.Xq live) a w:=by
 obtain⟨Fr,β,R,g⟩:=h;have k:∀i,look (st.Xq live).sl i=if i∈live then look st.sl i else .Hd:=fun i=>xz st.sl live i
 refine⟨Fr,β,R.Au (fun i=>?_) rfl (fun L d=>?_) rfl,g⟩
 ·grind
 ·simp only[St.Xq,Ue,si,Yc,decide_eq_true_eq]at d
  rcases d with⟨j,⟨b,c⟩,rfl⟩|⟨b,c⟩
  ·grind
  ·exact⟨b,fun i e=>by subst e;cases c⟩
theorem Rl.Ye(h:Rl P S st a w)(live):Rl P S (st.Ye live) a w:=(h.ck live).Xq live
theorem PR{nb}:∀(sl)(i),Ia nb (sl.map (·.2))=true->(look sl i).low nb=true
 |[],i,_=>by rfl
 |(j,p)::r,i,h=>by
  simp only[gc,Ia,bc]at h;rw[Ae];split
  ·exact h.1
  ·exact PR r i h.2
theorem Rl.xi(h:Rl P S st a w){nb}(o:S.sβ.length<=nb):Rl P S (st.xi nb) a w:=by
 obtain⟨Fr,β,R,d⟩:=h;by_cases k:(trim nb (st.sl.map (·.2)) st.bx)=st.bx
 ·refine⟨Fr,β,R.Au (fun i=>.inr rfl) k (fun L l=>?_) rfl,d⟩
  grind [St.xi]
 ·have r:Ia nb (st.sl.map (·.2))=true/\(st.bx.take nb).all (fun q=>Ia nb q.2)=true/\trim nb (st.sl.map (·.2)) st.bx=st.bx.take nb:=by
   unfold trim at k⊢;split at k
   ·grind
   ·grind
  obtain⟨u,v,x⟩:=r;have t:(st.bx.take nb).length≠st.bx.length:=fun e=>k (by
   grind [List.take_of_length_le])
  have c:∀L,L∈(st.xi nb).ow->L∈st.ow/\∀b j,L=.cell b j->b<nb:=fun L l=>by
   grind [St.xi]
  refine⟨Fr,β.take nb,R.cut (nb:=nb) (fun i=>.inr ⟨rfl,PR _ i u⟩) x (fun cs n=>Bg.1 v cs n) (fun L l=>⟨(c L l).1,fun i _=>rfl,(c L l).2⟩) rfl,⟨d.size,d.fr,d.cell,fun i g p=>?_,d.lp⟩⟩;have:i<nb:=mh (qg p).1 o;rw[Ew this];exact d.box i g p
theorem Y1{fr}{tmps}{ps}{az b}(c:∀l,r=some l->∃d,w.heap[l]?=some (Obj.loop d)):
 ∃l mk a df,(Instr.enterLoop fr tmps ps az b r).run P w=.ok (l,mk) a/\Below w.heap.size w a/\w.heap.size<=l/\a.heap[l]?=some (.loop {state:=.ready,pending:=none,fn:=fr,tmps,params:=ps,assign:=az,body:=b,defers:=df})/\
  (mk=[]\/∃D,mk=[mark D]/\w.heap.size<=D/\a.heap[D]?=some (.deferred (some []))):=by
 cases r with
 |none=>
  refine⟨_,_,_,w.heap.size,run_enterLoop_outer fr tmps ps az b,(fu w _).alloc ea _,aa,?_,.inr ⟨w.heap.size,rfl,Aa _,?_⟩⟩
  ·grind [World.alloc_heap_new,World.size_alloc]
  grind [Below,fu,World.alloc_heap_new]
 |some g=>
  obtain⟨r0,e⟩:=c g rfl;refine⟨w.heap.size,[],w.alloc (.loop {state:=.ready,pending:=none,fn:=fr,tmps,params:=ps,assign:=az,body:=b,defers:=r0.defers}),r0.defers,?_,fu w _,Aa _,World.alloc_heap_new w _,.inl rfl⟩;unfold Instr.enterLoop;simp only[Qb,run_newObj_alloc,Result.andThen,Lh,run_getLoop e]
theorem zbI(hcf:xc P Γ cf)(hSZ:Good Γ S){f k}{live}{g}{ps}{az b}{y}(hyZ:yb g=some y)(Z:Ql P f k=some (g,ps,az,b))(hfn:∃fn,P.funcs[f]?=some fn/\S.nt=fn.ntmps)
 (hrd:∀l,r=some l->∃V,S.sw.heap[l]?=some (Obj.loop V)) {o} (x:Lk cf f k live (y.ev st.sl) st=some (o,st')) (hr:Rl P S st a w) {Q} (hKZ:∀a' w',Rl P S st' a' w'->Q o.ex a' w'):(Code.rangeFunc g ps az b).wpIn (fw r) 0 P Q a w:=by
 obtain⟨Fr,β,R,hlZ⟩:=hr;unfold Lk at x;split at x
 case h_2=>cases x
 rename_i h fb e1;split at x
 ·cases x
 rename_i hne;obtain⟨s2Z,Y,p⟩:=qb x;have hxZ:=cc R.sl hyZ;rw[e1]at hxZ;obtain⟨A,hxv,hcr⟩:=hxZ;refine wpIn_rangeFunc fun fr _=>?_
 obtain⟨l,mk,H,df,k1Z,hbZ,k2Z,k3Z,k4Z⟩:=Y1 (P:=P) (w:=w) (fr:=fr) (tmps:=a.tmps) (ps:=ps) (az:=az) (b:=b) (r:=r) fun l0Z e=>by
  obtain⟨V,q⟩:=hrd l0Z e;exact hlZ.lp _ _ q
 obtain⟨R1Z,u⟩:=R.tJ (Fr':=Of Fr l 0) (l:=l) (cs:=(0,[.lp f k .ready live (live.map (look st.sl))])) hbZ (fun g h=>At (mh h k2Z)) k2Z (by simp[Of]) fun u=>.inr ⟨f,k,.ready,live,_,rfl,_,k3Z,by
  obtain⟨fn,X,q2Z⟩:=hfn;exact⟨fn,X,by rw[<-q2Z];exact R.nt⟩,⟨g,Z⟩,⟨rfl,rfl⟩,fun i=>by
  have:look (live.zip (live.map (look st.sl))) i=if i∈live then look st.sl i else .Hd:=by
   rw[<-xz st.sl live i];congr 1;rw[List.zip_map_right];clear Y p x hKZ
   induction live with
   |nil=>rfl
   |cons j l n=>grind
  rw[this];split
  ·exact(R.sl i).mono u
  ·simp[Rd]⟩
 have hbl:st.bx.length=β.length:=R.bx.1;have M:Rel P S.T S.base S.M S.w0 S.F0 S.nt {st with bx:=st.bx++[(0,[.lp f k .ready live (live.map (look st.sl))])]} {a with defers:=mk++a.defers} H (Of Fr l 0) (β++[l]):=by
  rcases k4Z with rfl|⟨D,rfl,t,v⟩
  ·exact R1Z
  ·refine R1Z.oW (Xf R.ge t) v fun n e J=>?_
   obtain⟨z,C,G,I⟩:=R.df
   grind [QG]
 have O:(β++[l])[st.bx.length]?=some l:=by rw[hbl,Pf (Aa _)];simp
 have B:ta H (Of Fr l 0) (β++[l]) (.Sa st.bx.length::fb) (.func (.yield l) #[] #[]::A):=by
  simp only[ta];exact⟨_,_,rfl,by simp only[Rd];grind,ta.mono u _ _ hcr⟩
 have F:=Nx hcf (S:={S with sw:=H,sF:=Of Fr l 0,sβ:=β++[l]}) Y (fun d h=>by cases h) M (Le.refl _ _ _) B (hSZ.at M) hSZ.Nj (K:=fun a' w'=>Rl P {S with sw:=H,sF:=Of Fr l 0,sβ:=β++[l]} s2Z a' w') (fun a' w' h=>h);unfold Enters at F;rw[if_neg hne]at F;obtain⟨hent,E⟩:=F;refine⟨l,mk,H,{target:=.fn (.func h) A.toArray,args:=#[.func (.yield l) #[] #[]]},H,h,(.func (.yield l) #[] #[]::A).toArray,H,k1Z,?_,fun _ _=>trivial,?_,(fun h=>by cases h),?_⟩
 ·grind [resolve,Deferred.ofValue,Sem.run_pure,Act.eval]
 ·grind [GD,invoke]
 ·refine PP.2 (E.mono fun e w3Z hqZ=>?_)
  obtain⟨v,rfl,L,I,R3Z,T⟩:=hqZ;have N:I[st.bx.length]?=some l:=T.box _ _ O;split at p
  case h_2=>cases p
  rename_i e0Z f' k' s live' snap' U;obtain⟨g3,b1Z,b2Z,b3Z⟩:=R3Z.bx.2 _ _ U;rw[N]at b1Z;cases b1Z;have q:Pr P w3Z L I f' k' s live' snap' l:=by
   rcases b3Z with⟨vs,e,_,p,_⟩|⟨_,_,_,_,_,x,Y⟩
   ·obtain⟨_,_,_,p,_⟩:=p;simp only[Rd]at p
   ·grind
  obtain⟨r3,X,q2Z,q3Z,J,q5Z⟩:=q;have fin:r3.state≠.busy->∀W:Out,(W=o/\{s2Z with bx:=s2Z.bx.set st.bx.length (0,[.lp f' k' .over live' snap'])}=st')->(W=.normal/\r3.pending=none\/∃j:Ww,r3.pending=some j.code/\W=(match j with| .exit i=>.exit i| .ret=>.ret))->∃z t,(Instr.endLoop l).run P w3Z=.ok z t/\(match z with
   |none=>Q .normal {a with defers:=mk++a.defers} t
   |some c=>c.wpIn (fw r) 0 P Q {a with defers:=mk++a.defers} t):=fun C W hoZ hjZ=>by
   obtain⟨rfl,rfl⟩:=hoZ;obtain⟨R4Z,G⟩:=R3Z.gI (r':={r3 with state:=.exhausted}) (f':=f') (k':=k') (s':=.over) (live':=live') (snap':=snap') U N fun G=>⟨_,World.putObj_heap_same (Kh.1 X).1,q2Z,q3Z,trivial,fun i=>(q5Z i).mono G⟩
   have n:=hKZ _ _ ⟨L,I,R4Z,(hlZ.trans u).trans (T.trans G)⟩;refine⟨_,_,run_endLoop X C,?_⟩;rcases hjZ with⟨rfl,hpZ⟩|⟨j,hpZ,rfl⟩
   ·rw[hpZ]at n⊢;exact n
   ·rw[hpZ]at n⊢
    cases j with
    |exit i=>exact wpIn_exit n
    |ret=>exact wpIn_ret n
  split at p
  ·cases p
   exact fin (by rw[J.1];simp) .normal ⟨rfl,rfl⟩ (.inl ⟨rfl,J.2⟩)
  ·rename_i i
   cases p;exact fin (by rw[J.1];simp) (.exit i) ⟨rfl,rfl⟩ (.inr ⟨.exit i,J.2,rfl⟩)
  ·cases p
   exact fin (by rw[J.1];simp) .ret ⟨rfl,rfl⟩ (.inr ⟨.ret,J.2,rfl⟩)
  ·cases p
def XV{F}{n}{P}{a}{w}{Q}{c}(h:c.wpIn F n P (fun e a w=>Q e a w/\∀l,e≠.goto l) a w):(Code.scope c).wpIn F n P Q a w:=by
 intro b k cs q j hr;have r:∀(a:Act)(w:World),step P (lone (b.atR a (.code (.scope c)::k)) cs w)=.next (lone (b.atR a (.code c::.inScope c::k)) cs w):=fun a w=>step_lone_go ra
 have t:∀(a:Act)(w:World),step P (lone (b.atR a (.inScope c::k)) cs w)=.next (lone (b.atR a k) cs w):=fun a w=>step_lone_go ra
 have u:(lone (b.atR a (.code (.scope c)::k)) cs w).fenced P F:=fenced_calm j hr rfl;obtain⟨e,g,i,⟨v,x⟩,d⟩:=h b (.inScope c::k) cs q j hr;refine⟨e,g,i,v,.of_steps (.one u (r a w)) ?_⟩;cases e with
 |normal=>exact StepsIn.trans d (.one (fenced_calm j hr rfl) (t _ _))
 |exit id=>exact⟨fun k' o=>d.1 k' (by simp[exitTo,o]),fun p o=>d.2 p (by simp[exitTo,o])⟩
 |goto l'=>grind
 |ret=>exact d
 |panic o=>exact d
 |outgrown=>exact d
def Out.nP(o:Out)(l):o.ex≠.goto l:=by cases o<;>simp[Out.ex]
theorem yq(hmZ:P.follows .mixedOrders=true)(M:xc P Γ cf)(hSZ:Good Γ S){n}{f}(hfn:∃fn,P.funcs[f]?=some fn/\S.nt=fn.ntmps)(hrd:∀l,r=some l->∃rec,S.sw.heap[l]?=some (Obj.loop rec)):
 ∀(code)(C)(lv)(c)(z),de P qs f S.nt C lv code=some (c,z)->(∀j q,(Yb code)[j]?=some q->Ql P f (C+j)=some q)->∀(st st')(o)(a)(w)(Q),
 ma cf n c st=some (o,st')->st.al=[]->Rl P S st a w->(∀a' w',Rl P S st' a' w'->Q o.ex a' w')->code.wpIn (fw r) 0 P Q a w:=by
 intro code
 induction code with
 |skip=>
  intro C lv c z d i st st' o a w Q A _ hr v;cases d;cases A;exact wpIn_skip (v a w hr)
 |region id ops J=>
  intro C lv c z d i st st' o a w Q A p hr v;cases lv with
  |nil=>grind [de,cp]
  |cons l lv=>
   simp only[de]at d;split at d
   case h_2=>grind [cp]
   rename_i X D;cases d;unfold bD at D;have N:∀q:List Wa×BT,nu P qs S.nt ops=some q->J=true->ka.Od l q.1 q.2=c->(Code.region id ops J).wpIn (fw r) 0 P Q a w:=fun q O T d=>by
    cases d;subst T;obtain⟨sF,E,L⟩:=qm A;obtain⟨U,G,B⟩:=qb E;cases L;exact zb3 hmZ M hSZ O G B p hr fun s a' w' hs u=>v a' w' (hs▸u.Ye l)
   split at D
   ·grind [Option.map_eq_some_iff]
   split at D
   ·rename_i q O
    cases D;obtain⟨sF,E,L⟩:=qm A;obtain⟨U,G,B⟩:=qb E;cases L;exact zb6 hmZ M hSZ O G B p hr fun a' w' u=>v a' w' (u.Ye l)
   grind [Option.map_eq_some_iff]
 |seq x y J N=>
  intro C lv c z d i st st' o a w Q A p hr v;obtain⟨⟨c1,I⟩,E,d⟩:=qb d;obtain⟨⟨c2,l2Z⟩,L,d⟩:=qm d;cases d;obtain⟨⟨H,s1⟩,G,B⟩:=qb A;refine wpIn_seq (J C lv c1 I E (fun j q Y=>i j q (by grind [Yb])) st s1 H a w _ G p hr fun a' w' u=>?_);have D:=Hm c1 st H s1 G p;cases H with
  |normal=>exact N _ I c2 l2Z L (fun j q Y=>by have:=i ((Yb x).length+j) q (by simp only[Yb];grind);grind) s1 st' o a' w' Q B D u v
  |exit id=>cases B;exact v a' w' u
  |ret=>cases B;exact v a' w' u
 |cond x K T J N=>
  intro C lv c z d i st st' o a w Q A p hr v;obtain⟨y,hyZ,d⟩:=qb d;obtain⟨⟨c1,I⟩,E,d⟩:=qb d;obtain⟨⟨c2,l2Z⟩,L,d⟩:=qm d;cases d;simp only[ma]at A;split at A
  ·rename_i t e1
   obtain⟨Fr,β,R,V⟩:=hr;have D:=cc R.sl hyZ;rw[e1]at D;obtain⟨D,_⟩:=Oc D;refine wpIn_cond D ?_;cases t with
   |true=>
    exact J C lv c1 I E (fun j q Y=>i j q (by grind [Yb])) st st' o a w Q A p ⟨Fr,β,R,V⟩ v
   |false=>
    exact N _ I c2 l2Z L (fun j q Y=>by
     have:=i ((Yb K).length+j) q (by simp only[Yb];rw[Pf aa];simpa using Y)
     grind) st st' o a w Q A p ⟨Fr,β,R,V⟩ v
  ·cases A
 |block id b W=>
  intro C lv c z d i st st' o a w Q A p hr v;obtain⟨⟨c1,I⟩,E,d⟩:=qm d;cases d;obtain⟨⟨H,s1⟩,G,B⟩:=qm A;have F:S.sβ.length<=st.bx.length:=by
   obtain⟨Fr,β,R,V⟩:=hr;rw[R.bx.1];exact vR V
  refine wpIn_block (W C lv c1 I E i st s1 H a w _ G p hr fun a' w' u=>?_);cases H with
  |normal=>cases B;exact v a' w' (u.xi F)
  |ret=>cases B;exact v a' w' u
  |exit j=>
   dsimp only at B;simp only[Out.ex,Exit.inBlock];split at B
   ·rename_i e;cases B;rw[if_pos e];exact v a' w' (u.xi F)
   ·rename_i e;cases B;rw[if_neg e];exact v a' w' u
 |loop b W=>
  intro C lv c z d i st st' o a w Q A p hr v;cases lv with
  |nil=>grind [de,cp]
  |cons l lv=>
   obtain⟨⟨c1,I⟩,E,d⟩:=qm d;cases d;have F:S.sβ.length<=st.bx.length:=by
    obtain⟨Fr,β,R,V⟩:=hr;rw[R.bx.1];exact vR V
   intro Z k cs hbf N U;have key:∀(m:Nat)(s:St)(a:Act)(w:World),Ac (ma cf n c1) l st.bx.length m s=some (o,st')->s.al=[]->Rl P S s a w->∃e a' w',Q e a' w'/\ArrivesIn (Machine.fenced P (fw r)) P (lone (Z.atR a (.code b::.inLoop b::k)) cs w) Z k cs e a' w':=by
    intro m
    induction m with
    |zero=>intro s a w h;cases h
    |succ m ihm=>
     intro s a w h p hr;obtain⟨⟨H,s1⟩,G,B⟩:=qb h;obtain⟨e,K,X,O,D⟩:=W C lv c1 I E i s s1 H a w (fun e a' w'=>e=H.ex/\Rl P S s1 a' w') G p hr (fun a' w' u=>⟨rfl,u⟩) Z (.inLoop b::k) cs hbf N U;obtain⟨rfl,T⟩:=O;cases H with
     |normal=>
      obtain⟨e2,a2Z,w2Z,hq2,J⟩:=ihm _ K X B rfl (T.only l F);exact⟨e2,a2Z,w2Z,hq2,.of_steps (StepsIn.trans D (.one (fenced_calm N U rfl) stepR_inLoop)) J⟩
     |exit id=>cases B;exact⟨_,K,X,v K X T,.pass (x:=.inLoop b) rfl (fun _ _=>.inl (by simp[Out.ex])) D⟩
     |ret=>cases B;exact⟨_,K,X,v K X T,.pass (x:=.inLoop b) rfl (fun _ _=>.inl (by simp[Out.ex])) D⟩
   obtain⟨e,a',w',O,D⟩:=key n _ a w A rfl (hr.only l F);exact⟨e,a',w',O,.of_steps (.one (fenced_calm N U rfl) stepR_loop) D⟩
 |exit id=>
  intro C lv c z d i st st' o a w Q A _ hr v;cases lv with
  |nil=>grind [de,cp]
  |cons l lv=>
   cases d;cases A;exact wpIn_exit (v a w (hr.Ye l))
 |ret=>
  intro C lv c z d i st st' o a w Q A _ hr v;cases lv with
  |nil=>grind [de,cp]
  |cons l lv=>
   cases d;cases A;exact wpIn_ret (v a w (hr.Ye l))
 |rangeFunc g ps az b _ _=>
  intro C lv c z d i st st' o a w Q A p hr v;cases lv with
  |nil=>grind [de,cp]
  |cons l lv=>
   obtain⟨y,hyZ,d⟩:=qm d;cases d;exact zbI M hSZ hyZ (i 0 _ rfl) hfn hrd A hr v
 |scope b W=>
  intro C lv c z d i st st' o a w Q A p hr v;exact XV (W C lv c z d i st st' o a w _ A p hr fun a' w' u=>⟨v a' w' u,fun l=>o.nP l⟩)
 |label l=>
  intro C lv c z d i st st' o a w Q A _ hr v;cases d;cases A;exact wpIn_label (v a w hr)
 |goto l=>grind [de,cp]
 |refuse s=>grind [de,cp]
end
section
variable {P:Program} {w w':World} {Fr Fr':Nat→Nat} {β β':List Nat} {T:List Deferred} {base nt:Nat} {M:Nat→Prop} {w0:World} {F0:Nat→Nat} {st st':St} {a a':Act} {cf:Callee} {Γ:lf} {S:S0}
theorem LR:∀(ps)(k i),look (yh k ps) i=if k<=i then ps.getD (i - k) .Hd else .Hd
 |[],k,i=>by simp[yh,look]
 |p::ps,k,i=>by
  simp only[yh,Ae];rw[LR ps (k+1) i]
  grind
def mA(a:Act):ResultVar->Sem Value
 | .tmp t=>pure (a.tmps.getD t undef)
 | .cell x t=>do loadVar t (<-asAddr (a.tmps.getD x undef))
def zcb(fn)(a):results fn a.tmps=(do
 let vs <-fn.results.mapM (mA a)
 pure (if h:vs.size=1 then vs[0]else .tuple vs)):=by
 rfl
theorem VT{rs:List ResultVar}{cs:List (Sum Nat (Nat×Bool×Nat))}(R:Rel P T base M w0 F0 nt st a w Fr β):∀{rs:List ResultVar}{cs}{vs},rs.mapM (Dm P)=some cs->cs.mapM (Hi st)=some vs->
 ∃us,(rs.mapM (mA a)).run P w=.ok us w/\ta w Fr β vs us
 |[],cs,vs,h,i=>by
  simp at h;subst h;simp at i;subst i;exact⟨[],rfl,ra⟩
 |r::rs,cs,vs,h,i=>by
  rw[Qp]at h;obtain⟨c,k,h⟩:=qb h;obtain⟨z,A,h⟩:=qb h;cases h;rw[Qp]at i;obtain⟨p,l,i⟩:=qb i;obtain⟨ps,D,i⟩:=qb i;cases i;obtain⟨us,V,W⟩:=VT (rs:=rs) (cs:=z) R A D;have one:∃u,(mA a r).run P w=.ok u w/\Rd w Fr β p u:=by
   cases r with
   |tmp t=>
    simp only[Dm,Wb]at k;subst k;simp only[Hi,Wb]at l;subst l;exact⟨_,rfl,R.sl t⟩
   |cell x ty=>
    obtain⟨g,N,k⟩:=qb k;obtain⟨n,O,k⟩:=qb k;split at k
    ·rename_i q
     cases k;have E:=R.sl x;simp only[Hi]at l;split at l
     ·rename_i b o e1
      rw[e1]at E;obtain⟨gb,B,E⟩:=E;split at l
      ·rename_i cells d
       split at l
       ·obtain⟨d,_,U,vs,e,F,K,y,L,S,_⟩:=R.bx.cells d
        rw[B]at F;cases F;have Q:=y.length;have Ub:∀j v,((vs.drop o).take n)[j]?=some v->w.cell? ⟨gb,o+j,none⟩=some v:=fun j v G=>by
         rw[List.getElem?_take]at G;split at G
         ·rw[cell_of_row _ _ _ _ _ _ K];grind
         grind
        have H:=pA N O na Ub q;refine⟨if g then .agg ((vs.drop o).take n).toArray else((vs.drop o).take n).getD 0 undef,?_,?_⟩
        ·grind [mA,asAddr]
        ·cases g with
         |true=>
          simp only[if_true,Wb]at l⊢;subst l;exact⟨_,rfl,(y.drop o).take n,(L.drop o).take n⟩
         |false=>
          have C:n=1:=q.resolve_left ea;obtain⟨v,I,J⟩:=fE (y.drop o) C (p:=p) na;rw[I];exact J
       grind
      grind
     grind
    grind
  obtain⟨u,I,J⟩:=one;refine⟨u::us,?_,by grind [ta]⟩;simp_all
def zfi{vs}{us}(h:ta w Fr β vs us):Rd w Fr β (ed vs) (if h:us.toArray.size=1 then us.toArray[0]else .tuple us.toArray):=by
 match vs,us,h with
 |[],us,h=>grind [ta,ed,Rd]
 |[p],us,h=>
  grind [ta,ed]
 |p::q::r,us,h=>
  have a:=h.length
  grind [ed,Rd]
theorem zfg{nb}:∀(vs),Ia nb vs=true->(ed vs).low nb=true
 |[],_=>rfl
 |[v],h=>by grind [Ia,ed]
 |v::u::r,h=>h
def Rel.oS{bx}{oc}(R:Rel P T base M w0 F0 nt (qh bx oc) a w Fr β)(h:∀L∈oc,Da L=true):Rel P [] base M w0 F0 0 (qh bx oc) Ph w Fr β:=by
 have e:∀L∈oc,Ga Ph w β L=Ga a w β L:=fun L b=>(Oi (h L b)).symm
 refine⟨fun i=>by simp[qh,look,Rd],rfl,Ms,R.bx,R.nd,fun L b=>?_,fun L b l d k v p g c j=>?_,fun L b v g c=>?_,(fun q o=>by cases o),fun g n=>R.may g (n.imp id ?_),R.old,R.ge,R.os,R.tape,R.output⟩
 ·rw[e L b];exact R.own L b
 ·rw[e L b]at c;rw[e l d]at j
  exact R.sep L b l d k v p g c j
 ·rw[e L b]at c;exact R.out L b v g c
 ·rintro⟨L,b,v,c,j⟩
  exact⟨L,b,v,by rw[<-e L b];exact c,j⟩
theorem tT{bx bx':Oa}{oc oc'}{vs2}{v0}{os}(N:bx.length=β.length)(y:Rel P [] w.heap.size (se w β oc) w Fr nt st a' w' Fr' β')(k:Le w Fr β w' Fr' β')(r:Rd w' Fr' β' (ed vs2) v0)
 (t:os=true->∃s,Loc.slot s∈st.ow/\a'.tmps.getD s undef=v0/\look st.sl s=ed vs2) (H:trim bx.length vs2 st.bx=bx') (J:dj bx'.length st.ow=oc'):∃d,ui P w Fr β oc vs2 os bx' oc' v0 w' Fr' d:=by
 have a:∀L,L∈oc'->L∈st.ow/\Da L=true/\∀b j,L=.cell b j->b<bx'.length:=fun L c=>by
  rw[<-J]at c;obtain⟨z,G⟩:=Yc.1 c;cases L with
  |slot i=>cases G
  |cell b j=>exact⟨z,rfl,fun l v e=>by grind⟩
 have o:∀d:List Nat,(∀g∈d,g∈β')->(∀L∈oc',∀u,Ga Ph w' d L=some u->Ga a' w' β' L=some u)->os=true->mg P w' Fr' (ed vs2) v0/\∀g,v0.ownBlock=some g->(w.heap.size<=g\/se w β oc g)/\g∉d/\∀L∈oc',∀u,Ga Ph w' d L=some u->u.ownBlock≠some g:=fun d A C Q=>by
  obtain⟨s,l,B,I⟩:=t Q;obtain⟨T,p,D,E,M⟩:=y.own _ l;simp only[Ga,Wb]at D;simp only[bb,Wb]at E;rw[B]at D;rw[I]at E;subst D;subst E;have v:Ga a' w' β' (.slot s)=some v0:=by simp only[Ga,B]
  refine⟨M,fun g n=>⟨y.may g (.inr ⟨_,l,v0,v,n⟩),fun O=>y.out _ l v0 g v n (A g O),fun L c x S K=>?_⟩⟩;exact y.sep _ l L (a L c).1 (fun e=>by have:=(a L c).2.1;rw[<-e]at this;cases this) v0 x g v (C L c x S) n K
 by_cases z:bx'=st.bx
 ·have F:Rel P [] w.heap.size (se w β oc) w Fr nt (qh bx' oc') a' w' Fr' β':=y.Au (fun i=>.inl rfl) z (fun L c=>⟨(a L c).1,fun i e=>by have:=(a L c).2.1;rw[e]at this;cases this⟩) rfl
  exact⟨β',⟨r,F.oS (fun L c=>(a L c).2.1),k,fun L c=>(a L c).2.1,o β' (fun _ h=>h) fun L c u R=>by grind [Oi]⟩⟩
 ·have G:Ia bx.length vs2=true/\(st.bx.take bx.length).all (fun q=>Ia bx.length q.2)=true/\bx'=st.bx.take bx.length:=by
   rw[<-H]at z⊢;unfold trim at z⊢;split at z
   ·grind
   ·grind
  obtain⟨D,E,M⟩:=G;have F:Rel P [] w.heap.size (se w β oc) w Fr nt (qh bx' oc') a' w' Fr' (β'.take bx.length):=y.cut (nb:=bx.length) (fun i=>.inl rfl) M (fun cs l=>Bg.1 E cs l) (fun L c=>⟨(a L c).1,(fun i e=>by have:=(a L c).2.1;rw[e]at this;cases this),fun b j e=>by
   have:=(a L c).2.2 b j e
   grind⟩) rfl
  refine⟨β'.take bx.length,⟨zz _ _ (zfg vs2 D) r,F.oS (fun L c=>(a L c).2.1),⟨k.size,k.fr,k.cell,fun i g n=>?_,k.lp⟩,fun L c=>(a L c).2.1,o _ (fun g n=>RA n) fun L c u R=>?_⟩⟩
  ·have fa:=(qg n).1
   rw[Ew aa];exact k.box i g n
  ·rw[Oi (a L c).2.1]
   cases L<;>grind [Ga]
theorem HG{S}{fn}{e}{u}(g:u≠.run):∀(b:List Nat)(a)(w),a.defers=b.map mark++S.T->Rl P S st a w->(∀a' w',Rl P S st a' w'->a'.tmps=a.tmps->a'.defers=S.T->LeavesInM Fence.wide 0 P fn a.tmps e S.T u w')->
 LeavesInM Fence.wide 0 P fn a.tmps e (b.map mark++S.T) u w
 |[],a,w,c,hr,h=>h a w hr rfl c
 |D::b,a,w,c,hr,h=>by
  obtain⟨Fr,β,R,n⟩:=hr;obtain⟨o,i,d⟩:=R.zeU c;refine⟨g,.inl ⟨D,_,rfl,run_takeDeferred o,?_⟩⟩;exact HG g b {a with defers:=b.map mark++S.T} _ rfl ⟨Fr,β,i,n.trans d⟩ fun a' w' j k l=>h a' w' j k l
def Ks{S}{fn}{c}(k:S.T=[])(d)(a)(w)(l:a.defers=d)(hr:Rl P S st a w)(h:∀a' w',Rl P S st a' w'->a'.tmps=a.tmps->∃v,(results fn a'.tmps).run P w'=.ok v w'/\c (.returned v) w'):
 LeavesInM Fence.wide 0 P fn a.tmps c d .returning w:=by
 have b:=hr;obtain⟨Fr,β,R,n⟩:=b;obtain⟨e,g,i,j⟩:=R.df
 grind [HG,LeavesInM,LeavesIn]
theorem ZT{w}{Fr}{β}:∀(ps:List Nat)(az)(us)(sl)(tmps),(∀p∈ps,p<tmps.size)->ta w Fr β az us->(∀i,Rd w Fr β (look sl i) (tmps.getD i undef))->
 ((ps.zip us).foldl (fun(t:Array Value)(q:Nat×Value)=>t.setIfInBounds q.1 q.2) tmps).size=tmps.size/\∀i,Rd w Fr β (look ((ps.zip az).foldl (fun l p=>p::l) sl) i) (((ps.zip us).foldl (fun(t:Array Value)(q:Nat×Value)=>t.setIfInBounds q.1 q.2) tmps).getD i undef)
 |[],az,us,sl,tmps,_,_,h=>⟨rfl,h⟩
 |p::ps,[],us,sl,tmps,_,hr,h=>by simp only[ta]at hr;simp_all
 |p::ps,a::az,us,sl,tmps,d,hr,h=>by
  obtain⟨u,us,rfl,c,b⟩:=hr;simp only[List.zip_cons_cons,Cg];obtain⟨g,j⟩:=ZT ps az us ((p,a)::sl) (tmps.setIfInBounds p u) (fun q e=>by grind) b fun i=>by
   rw[Ae,po,Array.getElem?_setIfInBounds]
   grind [Array.getD_eq_getD_getElem?]
  grind
theorem zbJ:∀(c)(k){g}{ps}{az b},(Yb c)[k]?=some (g,ps,az,b)->∀(j)(q),(Yb az++Yb b)[j]?=some q->(Yb c)[k+1+j]?=some q:=by
 intro c
 induction c with
 |seq a b o d=>
  intro k g ps az i h j q l;simp only[Yb]at h⊢;by_cases p:k<(Yb a).length
  ·grind
  ·rw[Pf aa]at h
   rw[Pf aa];have:=d _ h j q l;rwa[show k+1+j - (Yb a).length=k - (Yb a).length+1+j by omega]
 |cond x a b o d=>
  intro k g ps az i h j q l;simp only[Yb]at h⊢;by_cases p:k<(Yb a).length
  ·grind
  ·rw[Pf aa]at h
   rw[Pf aa];have:=d _ h j q l;rwa[show k+1+j - (Yb a).length=k - (Yb a).length+1+j by omega]
 |block id b n=>intro k g ps az i h;exact n k h
 |loop b n=>intro k g ps az i h;exact n k h
 |scope b n=>intro k g ps az i h;exact n k h
 |rangeFunc u r e t o d=>
  intro k g ps az i h j q l;simp only[Yb]at h⊢;cases k with
  |zero=>
   grind
  |succ k=>
   rw[vk]at h;rw[show k+1+1+j=(k+1+j)+1 by omega,vk];by_cases p:k<(Yb e).length
   ·grind
   ·rw[Pf aa]at h
    rw[Pf aa];have:=d _ h j q l;rwa[show k+1+j - (Yb e).length=k - (Yb e).length+1+j by omega]
 |_=>intro k g ps az i h;simp[Yb]at h
theorem F2(hmZ:P.follows .mixedOrders=true){code}(X:∀f c,code f=some c->∃lv,Cm P lv f=some c){n}(hcf:xc P Γ cf){args}{bx bx'}{oc oc'}{M}{os}(h:Bl cf code n args bx oc=some (M,os,bx',oc'))
 {w} {Fr} {β} {vs} (y:nm P Γ w Fr β args vs bx oc):Enters P kb vs w fun e w'=>∃v Fr' β',e=.returned v/\ui P w Fr β oc M os bx' oc' v w' Fr' β':=by
 unfold Bl at h;split at h
 case h_2=>cases h
 rename_i b az;split at h
 case h_2=>cases h
 rename_i e0Z f k live E hbx;obtain⟨c,hcZ,hAZ⟩:=qb h;obtain⟨q,hqZ,hBZ⟩:=qb hAZ;split at hBZ
 case isFalse=>cases hBZ
 rename_i R;obtain⟨⟨o1Z,s1⟩,Y,h⟩:=qb hBZ;dsimp only at h;have V:=y.args;obtain⟨v0,us,rfl,hyZ,hus⟩:=V;obtain⟨g,H,rfl⟩:=hyZ;obtain⟨g0Z,N,hF,hat⟩:=y.rel.bx.2 b _ hbx;rw[H]at N;cases N;have hrec:Pr P w Fr β f k .ready live E g:=by
  rcases hat with⟨vs,e,_,G,_⟩|⟨_,_,_,_,_,heZ,h1Z⟩
  ·grind [ta,Rd]
  ·grind
 obtain⟨r,q1Z,⟨fn,I,htm⟩,⟨x,hra⟩,⟨hst,hpe⟩,hsn⟩:=hrec;obtain⟨lv,u⟩:=X f c hcZ;unfold Cm at u;rw[I]at u;dsimp only at u;split at u
 case h_2=>cases u
 rename_i body W;split at u
 case isFalse=>cases u
 obtain⟨⟨ccZ,lv'⟩,hcc,u⟩:=qb u;obtain⟨rg,hrg,u⟩:=qb u;obtain⟨rs,hrs,rfl⟩:=qm u;obtain⟨K,lvk,k1Z,C⟩:=xN hrg k q hqZ;rw[ld]at C;have S:Ql P f k=some K:=by unfold Ql;rw[I];simp only[Ja,W];exact k1Z
 rw[hra]at S;cases S;unfold cD at C;split at C
 case isFalse=>cases C
 rename_i hps;obtain⟨⟨ac,lv2⟩,hac,C⟩:=qb C;obtain⟨⟨bcZ,lv3⟩,hbc,C⟩:=qm C;cases C;obtain⟨ps,e1⟩:∃ps,ps=r.params:=⟨_,rfl⟩;rw[<-e1]at R Y hps;have hSZ:Good Γ ⟨w.heap.size,se w β oc,w,Fr,fn.ntmps,w,Fr,β,[]⟩:=⟨y.g,fun g H=>⟨Γ.lt w y.g g H,y.Nj g H⟩⟩;have hpall:∀p∈ps.toList,p<fn.ntmps:=fun p y=>by simpa using List.all_eq_true.1 hps p y
 have Z:((r.params.zip us.toArray).foldl (fun tmps(t,a)=>tmps.setIfInBounds t a) r.tmps)=(ps.toList.zip us).foldl (fun(t:Array Value)(q:Nat×Value)=>t.setIfInBounds q.1 q.2) r.tmps:=by
  rw[<-e1,<-Array.foldl_toList,Array.toList_zip]
 obtain⟨hsz,hsl⟩:=ZT ps.toList az us (live.zip E) r.tmps (by rw[htm];omega) hus hsn;obtain⟨a0,U⟩:∃a0:Act,a0={tmps:=((ps.toList.zip us).foldl (fun(t:Array Value)(q:Nat×Value)=>t.setIfInBounds q.1 q.2) r.tmps),defers:=[]}:=⟨_,rfl⟩;have A:∀L∈oc,∀w β,Ga a0 w β L=Ga Ph w β L:=fun L z w β=>Oi (y.cells L z)
 have R0Z:Rel P [] w.heap.size (se w β oc) w Fr fn.ntmps {sl:=(ps.toList.zip az).foldl (fun l p=>p::l) (live.zip E),ow:=oc,al:=[],bx:=bx} a0 w Fr β:=by
  refine⟨fun i=>by subst U;exact hsl i,na,by subst U;exact Ms,y.rel.bx,y.rel.nd,fun L z=>?_,fun L z L'Z hL' hne v v'Z g hvZ hv'=>?_,fun L z v g hvZ=>?_,(fun q hqZ=>by cases hqZ),fun g H=>.inr ?_,y.rel.old,Aa _,rfl,rfl,rfl⟩
  ·obtain⟨v,p,k1Z,C,k3Z⟩:=y.rel.own L z
   exact⟨v,p,by rw[A L z];exact k1Z,by rw[fA (y.cells L z) (oc:=oc)];exact C,k3Z⟩
  ·rw[A L z]at hvZ;rw[A L'Z hL']at hv'
   exact y.rel.sep L z L'Z hL' hne v v'Z g hvZ hv'
  ·rw[A L z]at hvZ;exact y.rel.out L z v g hvZ
  ·refine H.imp id ?_
   rintro⟨L,z,v,hvZ,H⟩;exact⟨L,z,v,by rw[<-A L z];exact hvZ,H⟩
 refine⟨g,us,r,rfl,q1Z,?_,?_⟩
 ·rw[<-e1,hus.length,R];simp
 rw[Z];refine roundIn_of_wpIn trivial ?_;rw[<-U];have T:∀j K,(Yb r.assign++Yb r.body)[j]?=some K->Ql P f (k+1+j)=some K:=fun j K hjZ=>by
  grind [Ql,zbJ]
 refine yq (r:=some g) hmZ hcf hSZ (f:=f) ⟨fn,I,rfl⟩ (fun l e=>by cases e;exact⟨r,q1Z⟩) r.assign (k+1) lvk ac lv2 hac (fun j K hjZ=>T j K na) _ s1 o1Z a0 w _ Y rfl ⟨Fr,β,R0Z,Le.refl _ _ _⟩ fun a1Z w1Z hr1=>?_
 obtain⟨Fr1,β1Z,RxZ,J⟩:=hr1;have hb1:β1Z[b]?=some g:=J.box _ _ H;split at h
 case h_2=>cases h
 rename_i e1' f1Z k1' D F Q;obtain⟨⟨o,st⟩,hev2,h⟩:=qb h;obtain⟨g0Z,N,hF1,hat1⟩:=RxZ.bx.2 b _ Q;rw[hb1]at N;cases N;have hrec1:Pr P w1Z Fr1 β1Z f1Z k1' .ready D F g:=by
  rcases hat1 with⟨vs,e,_,G,_⟩|⟨_,_,_,_,_,heZ,h1Z⟩
  ·obtain⟨_,_,_,G,_⟩:=G;simp only[Rd]at G
  ·cases heZ;exact h1Z
 obtain⟨r1,u1Z,u2Z,u3Z,⟨u4,u5Z⟩,u6Z⟩:=hrec1;obtain⟨R1Z,B⟩:=RxZ.gI (r':={r1 with state:=.busy}) (f':=f1Z) (k':=k1') (s':=.busy) (live':=D) (snap':=F) Q hb1 fun J=>⟨_,World.putObj_heap_same (Kh.1 u1Z).1,u2Z,u3Z,rfl,fun i=>(u6Z i).mono J⟩
 refine⟨_,run_beginRound u1Z u4,?_⟩;have hal1:=Hm _ _ _ _ Y rfl;refine yq (r:=some g) hmZ hcf hSZ (f:=f) ⟨fn,I,rfl⟩ (fun l e=>by cases e;exact⟨r,q1Z⟩) r.body (k+1+(Yb r.assign).length) lv2 bcZ lv3 hbc (fun j K hjZ=>by
  have:=T ((Yb r.assign).length+j) K (by rw[Pf aa];simpa using hjZ)
  grind) _ st o a1Z _ _ hev2 hal1 ⟨Fr1,β1Z,R1Z,J.trans B⟩ fun a' w' hr'=>?_
 obtain⟨Fr',β',R'Z,hl'⟩:=hr';have hb':β'[b]?=some g:=hl'.box _ _ H;split at h
 case h_2=>cases h
 rename_i e0' f' k' live' snap' O;obtain⟨g0Z,N,hF',hat'⟩:=R'Z.bx.2 b _ O;rw[hb']at N;cases N;have hrec':Pr P w' Fr' β' f' k' .busy live' snap' g:=by
  rcases hat' with⟨vs,e,_,G,_⟩|⟨_,_,_,_,_,heZ,h1Z⟩
  ·obtain⟨_,_,_,G,_⟩:=G;simp only[Rd]at G
  ·grind
 obtain⟨r',p1Z,p2Z,p3Z,p4Z,p5Z⟩:=hrec';have hgl':=(Kh.1 p1Z).1
 have fin:∀(s:gq)(d:Option Code),s.of {r' with state:=if d.isNone then .ready else .done,pending:=d}->(trim bx.length [.flat (.bool d.isNone)] (st.bx.set b (0,[.lp f' k' s live' snap'])))=bx'->M=[.flat (.bool d.isNone)]->os=false->dj bx'.length st.ow=oc'->
  ∃v w'',(Instr.endRound g d).run P w'=.ok v w''/\∃v0 Fr' β',Ending.returned v=.returned v0/\ui P w Fr β oc M os bx' oc' v0 w'' Fr' β':=fun s d hs h1Z G h3Z h4Z=>by
  subst G;subst h3Z;obtain⟨R2Z,B⟩:=R'Z.gI (r':={r' with state:=if d.isNone then .ready else .done,pending:=d}) (f':=f') (k':=k') (s':=s) (live':=live') (snap':=snap') O hb' fun B=>⟨_,World.putObj_heap_same hgl',p2Z,p3Z,hs,fun i=>(p5Z i).mono B⟩
  refine⟨_,_,run_endRound d p1Z,.bool d.isNone,Fr',?_⟩;obtain⟨β'',hpost⟩:=tT (v0:=.bool d.isNone) (vs2:=[.flat (.bool d.isNone)]) (os:=false) y.rel.bx.1 R2Z (hl'.trans B) (by simp[ed,Rd,Bc]) (fun h=>by cases h) h1Z h4Z;exact⟨β'',rfl,hpost⟩
 cases o with
 |normal=>
  cases h;exact fin .ready none ⟨rfl,rfl⟩ rfl rfl rfl rfl
 |exit i=>
  cases h;exact fin (.done (.exit i)) (some (.exit i)) ⟨rfl,rfl⟩ rfl rfl rfl rfl
 |ret=>
  cases h;exact fin (.done .ret) (some .ret) ⟨rfl,rfl⟩ rfl rfl rfl rfl
def Rel.bare(R:Rel P T base M w0 F0 nt st a w Fr β):Rel P [] base M w0 F0 nt st {a with defers:=[]} w Fr β:=by
 have l:∀L,Ga {a with defers:=[]} w β L=Ga a w β L:=fun L=>by rfl
 exact⟨R.sl,R.nt,Ms,R.bx,R.nd,fun L b=>by exact R.own L b,fun L b e c d v k g=>by exact R.sep L b e c d v k g,fun L b v g=>by exact R.out L b v g,fun q i=>by exact R.al q i,fun g h=>R.may g (h.imp id fun⟨L,b,v,n,j⟩=>⟨L,b,v,na,j⟩),R.old,R.ge,R.os,R.tape,R.output⟩
theorem As{fn}{rs}(o:fn.results.toList.mapM (Dm P)=some rs){bx bx':Oa}{oc oc'}{z}{os}(D:bx.length=β.length)
 (h:(rs.mapM (Hi st)).map (fun vs=>(vs,Ol rs st.ow,trim bx.length vs st.bx,dj (trim bx.length vs st.bx).length st.ow))=some (z,os,bx',oc')) (a') (w') (K:Rl P ⟨w.heap.size,se w β oc,w,Fr,nt,w,Fr,β,T⟩ st a' w'):
 ∃v,(results fn a'.tmps).run P w'=.ok v w'/\∃v0 Fr' β',Ending.returned v=.returned v0/\ui P w Fr β oc z os bx' oc' v0 w' Fr' β':=by
 obtain⟨Fr',β',B,G⟩:=K;have A:=B.bare;obtain⟨i,j⟩:∃i:Act,i={a' with defers:=[]}:=⟨_,rfl⟩;have R:a'.tmps=i.tmps:=by rw[j]
 rw[<-j]at A;rw[R];obtain⟨vs2,u,h⟩:=qm h;simp only[Prod.mk.injEq]at h;obtain⟨rfl,I,E,U⟩:=h;obtain⟨us,b,L⟩:=VT (rs:=fn.results.toList) (cs:=rs) A o u;obtain⟨v0,q⟩:∃v0,(if h:us.toArray.size=1 then us.toArray[0]else .tuple us.toArray)=v0:=⟨_,rfl⟩;have l:(results fn i.tmps).run P w'=.ok v0 w':=by
  rw[zcb,Array.mapM_eq_mapM_toList];simp only[Qb,Sem.run_map];rw[b,<-q];rfl
 have k:Rd w' Fr' β' (ed vs2) v0:=by rw[<-q];exact zfi L
 refine⟨v0,l,v0,Fr',?_⟩;have d:os=true->∃s,Loc.slot s∈st.ow/\i.tmps.getD s undef=v0/\look st.sl s=ed vs2:=fun H=>by
  have e:∃s,rs=[.inl s]/\Loc.slot s∈st.ow:=by
   rw[<-I]at H;rcases rs with _|⟨r,_|⟨r2,a⟩⟩
   ·cases H
   ·cases r<;>grind [Ol]
   ·cases r<;>cases H
  obtain⟨s,p,F⟩:=e;subst p;cases u;refine⟨s,F,?_,rfl⟩;have g:fn.results.toList.mapM (Dm P)=some [.inl s]:=o;cases n:fn.results.toList with
  |nil=>grind
  |cons x xs=>
   rw[n,Qp]at g;obtain⟨c,S,g⟩:=qb g;obtain⟨C,a,g⟩:=qb g;cases g;have N:x=.tmp s:=by
    cases x with
    |tmp t=>grind [Dm]
    |cell y ty=>
     grind [Dm,Option.bind_eq_some_iff]
   have M:xs=[]:=by
    cases xs with
    |nil=>rfl
    |cons y ys=>
     rw[Qp]at a;obtain⟨c,S,a⟩:=qb a;obtain⟨C,O,a⟩:=qb a;cases a
   subst N;subst M;rw[n]at b;cases b<;>grind
 obtain⟨Q,J⟩:=tT (os:=os) (bx':=bx') (oc':=oc') D A G k d E na
 grind
def AA{Γ}{args}{vs}{bx}{oc}(b:nm P Γ w Fr β args vs bx oc)(o:args.length<=nt):
 Rel P [] w.heap.size (se w β oc) w Fr nt {sl:=yh 0 args,ow:=oc,al:=[],bx:=bx} {tmps:=vs.toArray++Array.replicate (nt - vs.toArray.size) undef,defers:=[]} w Fr β:=by
 have x:=b.args.length;obtain⟨a0,k⟩:∃a0:Act,a0={tmps:=vs.toArray++Array.replicate (nt - vs.toArray.size) undef,defers:=[]}:=⟨_,rfl⟩;have e:∀i,a0.tmps.getD i undef=vs.getD i undef:=fun i=>by
  rw[po,UA]
  grind
 rw[<-k]
 ·skip
  have c:∀L∈oc,Ga a0 w β L=Ga Ph w β L:=fun L a=>Oi (b.cells L a)
  refine⟨fun i=>?_,na,by grind [Ms],b.rel.bx,b.rel.nd,fun L a=>?_,fun L a n d l v z g h j=>?_,fun L a v g h=>?_,(fun q u=>by cases u),fun g r=>.inr ?_,b.rel.old,Aa _,rfl,rfl,rfl⟩
  ·rw[LR,if_pos (Cb _),Nat.sub_zero,e]
   by_cases t:i<args.length
   ·obtain⟨v,y,A⟩:=b.args.get i _ (qe t)
    grind
   grind [Rd]
  ·obtain⟨v,p,A,t,y⟩:=b.rel.own L a
   exact⟨v,p,na,by rw[fA (b.cells L a) (oc:=oc)];exact t,y⟩
  ·rw[c L a]at h;rw[c n d]at j
   exact b.rel.sep L a n d l v z g h j
  ·rw[c L a]at h;exact b.rel.out L a v g h
  ·refine r.imp id ?_
   grind
def w2(H:P.follows .mixedOrders=true)(J:P.funcs[kb]?=none){code}{lib}(i:∀f c,code f=some c->∃lv,Cm P lv f=some c)(t:xc P Γ lib):∀n,xc P Γ (Df code lib n):=by
 intro n
 induction n with
 |zero=>intro f args bx oc x os bx' oc' h;grind [Df]
 |succ n K=>
  intro f args bx oc x os bx' oc' h;simp only[Df]at h;cases d:code f with
  |none=>
   rw[d]at h;dsimp only at h;split at h
   ·grind [F2]
   ·exact t f args bx oc x os bx' oc' h
  |some c=>
   rw[d]at h;dsimp only at h;split at h
   case isFalse=>cases h
   rename_i q;obtain⟨⟨o,st⟩,A,h⟩:=qb h;obtain⟨lv,a⟩:=i f c d;unfold Cm at a;split at a
   case h_2=>cases a
   rename_i fn p;split at a
   case h_2=>cases a
   rename_i body b;split at a
   case isFalse=>cases a
   obtain⟨⟨F,B⟩,z,a⟩:=qb a;obtain⟨rg,I,a⟩:=qb a;obtain⟨rs,v,rfl⟩:=qm a;intro w Fr β vs k;refine enters_of (by grind [Qj]) (fun e=>by grind) ?_;have G:Good Γ ⟨w.heap.size,se w β oc,w,Fr,fn.ntmps,w,Fr,β,[]⟩:=⟨k.g,fun g D=>⟨Γ.lt w k.g g D,k.Nj g D⟩⟩;have E:=AA (nt:=fn.ntmps) k q;refine callsIn_wide.1 (callsIn_of_wp_marks (n:=0) p b trivial ?_);refine yq (r:=none) H K G (f:=f) ⟨fn,p,rfl⟩ (fun l e=>by cases e) body 0 lv.main F B z ?_ _ st o _ w _ A rfl ⟨Fr,β,E,Le.refl _ _ _⟩ fun a' w' u=>?_
   ·grind [Ql]
   cases o with
   |exit id=>cases h
   |normal=>exact Ks rfl _ a' w' rfl u fun y C j _=>As v k.rel.bx.1 h y C j
   |ret=>exact Ks rfl _ a' w' rfl u fun y C j _=>As v k.rel.bx.1 h y C j
end
def Sub(c c':Callee):Prop:=∀f a b o r,c f a b o=some r->c' f a b o=some r
variable {c c':Callee} {st st':St}
theorem ku(h:Sub c c'){d}{f}{az}(hs:Lc c st d f az=some st'):Lc c' st d f az=some st':=by
 unfold Lc at hs⊢;obtain⟨r,a,b⟩:=qm hs;rw[h _ _ _ _ _ a,fd,b]
theorem TC(h:Sub c c'){d}{f}{az}(hs:Sc c st d f az=some st'):Sc c' st d f az=some st':=by
 unfold Sc at hs⊢;split at hs
 ·obtain⟨r,a,b⟩:=qb hs
  rw[h _ _ _ _ _ a,Ja]
  grind [ku]
 grind [ku]
theorem zbl(h:Sub c c'){f}{az}(hs:wj c f az=true):wj c' f az=true:=by
 unfold wj at hs⊢;simp only[bc]at hs⊢;refine⟨hs.1,?_⟩;obtain⟨_,hs⟩:=hs;split at hs
 ·rename_i vs r e;rw[h _ _ _ _ _ e];exact hs
 grind
theorem vT(h:Sub c c'){sl}{op}(hs:ob c sl op=true):ob c' sl op=true:=by
 cases op<;>grind [zbl,ob]
theorem D2(h:Sub c c'){f k}{live}{g}{r}(hs:Lk c f k live g st=some r):Lk c' f k live g st=some r:=by
 unfold Lk at hs⊢
 grind [Option.bind_eq_some_iff,ku]
theorem LJ{d}{x}:oa c st d (.asg x)=oa c' st d (.asg x):=by
 cases x with
 |t s=>rfl
 |c v=>rfl
theorem IJ{d}{b}{n}{x y}:oa c st d (.append b n x y)=oa c' st d (.append b n x y):=by
 rfl
theorem HJ{d}{x y}:oa c st d (.appendS x y)=oa c' st d (.appendS x y):=by
 rfl
theorem sI(h:Sub c c'){d}{op}(hs:oa c st d op=some st'):oa c' st d op=some st':=by
 cases op
 case call f az=>exact TC h hs
 case callv g az=>
  simp only[oa]at hs⊢
  grind [TC,ku]
 case calli Eh x az=>
  simp only[oa]at hs⊢;split at hs<;>grind [TC,Option.bind_eq_some_iff]
 case asg x=>grind [LJ]
 case append b n x y=>grind [IJ]
 case appendS x y=>grind [HJ]
 all_goals exact hs
theorem yr(h:Sub c c'){o}(hs:stepG c st o=some st'):stepG c' st o=some st':=by
 grind [stepG,Option.bind_eq_some_iff,sI]
def RU(h:Sub c c'){o}(hs:ce c st o=some st'):ce c' st o=some st':=by
 grind [ce,Option.bind_eq_some_iff,vT,sI]
theorem xy(h:Sub c c'):∀{l}{st st'},Hc c l st=some st'->Hc c' l st=some st'
 |[],_,_,hs=>hs
 |o::l,st,st',hs=>by
  simp only[Hc]at hs⊢;obtain⟨s,a,b⟩:=qb hs;rw[yr h a];exact xy h b
theorem yy(h:Sub c c'):∀{l}{st st'},tg c l st=some st'->tg c' l st=some st'
 |[],_,_,hs=>hs
 |o::l,st,st',hs=>by
  simp only[tg]at hs⊢;obtain⟨s,a,b⟩:=qb hs;rw[RU h a];exact yy h b
theorem OD{b c}(h:∀s r,b s=some r->c s=some r){lv}{nb}:∀{n m}{st}{r},n<=m->Ac b lv nb n st=some r->Ac c lv nb m st=some r
 |0,_,_,_,_,hs=>by cases hs
 |n+1,0,_,_,e,_=>by omega
 |n+1,m+1,st,r,e,hs=>by
  simp only[Ac]at hs⊢;obtain⟨⟨o,s⟩,d,a⟩:=qb hs;rw[h _ _ d];cases o with
  |normal=>exact OD h aa a
  |exit i=>exact a
  |ret=>exact a
def jU{α}(a:Option α):same a a=a:=if_pos rfl
theorem dp(h:Sub c c'){live}:∀{t}{st r},wd c live t st=some r->wd c' live t st=some r
 | .done,_,_,hs=>hs
 | .one o t,st,r,hs=>by
   simp only[wd]at hs⊢;obtain⟨s,a,b⟩:=qb hs;rw[yr h a];exact dp h b
 | .two o t q,st,r,hs=>by
   simp only[wd]at hs⊢;obtain⟨a,b⟩:=Sv hs;obtain⟨s,d,e⟩:=qb a;rw[yr h d,Ja,dp h e,dp h b,jU]
def SU(h:Sub c c'){st st'}{o}(hs:Pc c st o=some st'):Pc c' st o=some st':=by
 grind [Pc,Option.bind_eq_some_iff,yr]
theorem zy(h:Sub c c'):∀{l}{st st'},Tf c l st=some st'->Tf c' l st=some st'
 |[],_,_,hs=>hs
 |o::l,st,st',hs=>by
  simp only[Tf]at hs⊢;obtain⟨s,a,b⟩:=qb hs;rw[SU h a];exact zy h b
theorem ei(h:Sub c c'){n m}(d:n<=m):∀{k}{st}{r},ma c n k st=some r->ma c' m k st=some r
 | .skip,_,_,hs=>hs
 | .Ab l p t,st,r,hs=>by
   grind [ma,Option.map_eq_some_iff,Option.bind_eq_some_iff,yy,xy]
 | .Od l p t,st,r,hs=>by
   grind [ma,Option.map_eq_some_iff,Option.bind_eq_some_iff,zy,dp]
 | .seq a b,st,r,hs=>by
   simp only[ma]at hs⊢;obtain⟨⟨o,s⟩,q,j⟩:=qb hs;rw[ei h d q];cases o with
   |normal=>exact ei h d j
   |exit i=>exact j
   |ret=>exact j
 | .cond x a b,st,r,hs=>by
   simp only[ma]at hs⊢;split at hs
   ·rename_i t e
    cases t
    ·exact ei h d hs
    ·exact ei h d hs
   omega
 | .block id b,st,r,hs=>by
   simp only[ma]at hs⊢;obtain⟨s,q,j⟩:=qm hs;rw[ei h d q,fd,j]
 | .range f k lv g,st,r,hs=>by
   grind [ma,D2]
 | .loop lv b,st,r,hs=>by
   exact OD (fun s r hs=>ei h d hs) d hs
 | .exit id lv,_,_,hs=>hs
 | .ret lv,_,_,hs=>hs
noncomputable def En(cf:Callee)(n:Nat)(c:pa)(args:List PV)(bx:Oa)(oc:List Loc):Option Fe:=
 if args.length<=c.nt then
  (ma cf n c.body {sl:=yh 0 args,ow:=oc,al:=[],bx}).bind fun(o,st)=>
    match o with
    | .exit _=>none
    |_=>(c.Ua.mapM (Hi st)).map fun vs=>(vs,Ol c.Ua st.ow,trim bx.length vs st.bx,dj (trim bx.length vs st.bx).length st.ow)
 else none
def KD(h:Sub c c'){n m}(a:n<=m){k}{args}{bx}{oc}{r}(hs:En c n k args bx oc=some r):En c' m k args bx oc=some r:=by
 grind [En,Option.bind_eq_some_iff,ei]
variable {code:FuncId→Option pa} {lib:Callee}
theorem Ju(n)(f)(args)(bx)(oc):Df code lib (n+1) f args bx oc=match code f with|none=>if f=kb then Bl (Df code lib n) code n args bx oc else lib f args bx oc|some k=>En (Df code lib n) n k args bx oc:=rfl
def lP(h:Sub c c'){n m}(b:n<=m){args}{bx}{oc}{r}(hs:Bl c code n args bx oc=some r):Bl c' code m args bx oc=some r:=by
 unfold Bl at hs⊢;split at hs
 case h_2=>cases hs
 split at hs
 case h_2=>cases hs
 obtain⟨k,d,hs⟩:=qb hs;obtain⟨q,e,hs⟩:=qb hs;rw[d,Ja,e,Ja];split at hs
 case isFalse=>cases hs
 rename_i l;rw[if_pos l];obtain⟨⟨o,s1⟩,g,a⟩:=qb hs;rw[ei h b g,Ja];dsimp only at a⊢;split at a
 case h_2=>cases a
 obtain⟨p,i,j⟩:=qb a;rw[ei h b i];exact j
theorem LD:∀n,Sub (Df code lib n) (Df code lib (n+1))
 |0=>fun f a b o r h=>by cases h
 |n+1=>fun f a b o r h=>by
  rw[Ju]at h⊢;cases c:code f with
  |none=>
   rw[c]at h;dsimp only at h⊢;split at h
   ·rename_i hf;rw[if_pos hf];exact lP (LD n) (Nat.le_succ n) h
   grind
  |some k=>rw[c]at h;exact KD (LD n) (Nat.le_succ n) h
def ws{n m}(d:n<=m):Sub (Df code lib n) (Df code lib m):=by
 induction m with
 |zero=>have:n=0:=aa
        subst this;exact fun _ _ _ _ _ h=>h
 |succ m c=>
  by_cases h:n=m+1
  ·subst h;exact fun _ _ _ _ _ h=>h
  ·exact fun f a b o r hr=>LD m _ _ _ _ _ (c aa f a b o r hr)
noncomputable def da(code:FuncId->Option pa)(lib:Callee):Callee:=fun f args bx oc=>
 open Classical in if h:∃n r,Df code lib n f args bx oc=some r then some (h.choose_spec.choose)else none
def Im{f}{a}{b}{o}{r}:da code lib f a b o=some r ↔ ∃n,Df code lib n f a b o=some r:=by
 unfold da;constructor
 ·intro h
  split at h<;>grind
 ·rintro⟨n,d⟩
  have c:∃n r,Df code lib n f a b o=some r:=⟨n,r,d⟩;have e:=c.choose_spec.choose_spec;have g:=ws (Si c.choose n) _ _ _ _ _ e;have i:=ws (yk c.choose n) _ _ _ _ _ d
  grind
structure ti (F:Nat→Callee) (W:Callee):Prop where
 mono:∀ n m,n≤m→Sub (F n) (F m)
 fin:∀ f a b o r,W f a b o=some r→∃ n,F n f a b o=some r
variable {F:Nat→Callee} {W:Callee}
theorem Mx(h:ti F W){d}{f}{az}(hs:Lc W st d f az=some st'):∃n,Lc (F n) st d f az=some st':=by
 unfold Lc at hs⊢;obtain⟨r,a,b⟩:=qm hs;obtain⟨n,c⟩:=h.fin _ _ _ _ _ a
 grind
theorem SC(h:ti F W){d}{f}{az}(hs:Sc W st d f az=some st'):∃n,Sc (F n) st d f az=some st':=by
 unfold Sc at hs⊢;split at hs
 ·rename_i g
  obtain⟨⟨vs,os,bx,oc⟩,b,a⟩:=qb hs;obtain⟨n,c⟩:=h.fin _ _ _ _ _ b;dsimp only at a;split at a
  ·grind
  ·rename_i i
   obtain⟨m,e⟩:=Mx h a;exact⟨max n m,by rw[if_pos g,h.mono _ _ (Si n m) _ _ _ _ _ c,Ja];dsimp only;rw[if_neg i];exact ku (h.mono _ _ (yk n m)) e⟩
 grind [Mx]
theorem sT(h:ti F W){f}{az}(hs:wj W f az=true):∃n,wj (F n) f az=true:=by
 unfold wj at hs⊢;split at hs
 ·rename_i vs r e
  obtain⟨n,a⟩:=h.fin _ _ _ _ _ e
  grind
 grind
def zbr(h:ti F W){sl}{op}(hs:ob W sl op=true):∃n,ob (F n) sl op=true:=by
 cases op
 case call f az=>exact sT h hs
 case callv g az=>
  grind [ob,sT]
 all_goals exact⟨0,hs⟩
theorem C2(h:ti F W){f k}{live}{g}{r}(hs:Lk W f k live g st=some r):∃n,Lk (F n) f k live g st=some r:=by
 unfold Lk at hs⊢;split at hs<;>grind [Option.bind_eq_some_iff,Mx]
def QU(h:ti F W){d}{op}(hs:oa W st d op=some st'):∃n,oa (F n) st d op=some st':=by
 cases op
 case call f az=>exact SC h hs
 case callv g az=>
  simp only[oa]at hs⊢;split at hs<;>grind [SC,Mx]
 case calli Eh x az=>
  simp only[oa]at hs⊢;split at hs
  ·obtain⟨f,hf,hs⟩:=qb hs
   split at hs
   ·cases hs
   ·rename_i c
    obtain⟨n,a⟩:=SC h hs;exact⟨n,by rw[hf,Ja,if_neg c];exact a⟩
  ·cases hs
 case asg x=>exact⟨0,by grind [LJ]⟩
 case append b n x y=>exact⟨0,by grind [IJ]⟩
 case appendS x y=>exact⟨0,by grind [HJ]⟩
 all_goals exact⟨0,hs⟩
theorem BA(h:ti F W){o}(hs:stepG W st o=some st'):∃n,stepG (F n) st o=some st':=by
 unfold stepG at hs⊢;obtain⟨b,c,a⟩:=qb hs;rw[c];cases b
 ·simp_all
 ·exact QU h a
def zek(h:ti F W){o}(hs:ce W st o=some st'):∃n,ce (F n) st o=some st':=by
 unfold ce at hs⊢;obtain⟨b,d,a⟩:=qb hs;rw[d];cases b
 ·simp_all
 ·simp only[if_true,Ja]at a⊢
  split at a
  ·rename_i c
   obtain⟨n,e⟩:=QU h a;obtain⟨m,c⟩:=zbr h c;exact⟨max n m,by rw[if_pos (vT (h.mono _ _ (yk n m)) c)];exact sI (h.mono _ _ (Si n m)) e⟩
  grind
theorem fP(h:ti F W):∀{l}{st st'},Hc W l st=some st'->∃n,Hc (F n) l st=some st'
 |[],_,_,hs=>⟨0,hs⟩
 |o::l,st,st',hs=>by
  obtain⟨s,a,b⟩:=qb hs;obtain⟨n1,c⟩:=BA h a;obtain⟨n2,d⟩:=fP h b;refine⟨max n1 n2,?_⟩;simp only[Hc];rw[yr (h.mono _ _ (Si ..)) c];exact xy (h.mono _ _ (yk ..)) d
theorem gP(h:ti F W):∀{l}{st st'},tg W l st=some st'->∃n,tg (F n) l st=some st'
 |[],_,_,hs=>⟨0,hs⟩
 |o::l,st,st',hs=>by
  obtain⟨s,a,b⟩:=qb hs;obtain⟨n1,c⟩:=zek h a;obtain⟨n2,d⟩:=gP h b;refine⟨max n1 n2,?_⟩;simp only[tg];rw[RU (h.mono _ _ (Si ..)) c];exact yy (h.mono _ _ (yk ..)) d
theorem By(h:ti F W){live}:∀{t}{st r},wd W live t st=some r->∃m,wd (F m) live t st=some r
 | .done,_,_,hs=>⟨0,hs⟩
 | .one o t,st,r,hs=>by
   obtain⟨s,a,b⟩:=qb hs;obtain⟨n1,c⟩:=BA h a;obtain⟨n2,d⟩:=By h b;refine⟨max n1 n2,?_⟩;simp only[wd];rw[yr (h.mono _ _ (Si ..)) c];exact dp (h.mono _ _ (yk ..)) d
 | .two o t q,st,r,hs=>by
   obtain⟨a,b⟩:=Sv hs;obtain⟨s,e,g⟩:=qb a;obtain⟨n1,c⟩:=BA h e;obtain⟨n2,d⟩:=By h g;obtain⟨n3,i⟩:=By h b;refine⟨max n1 (max n2 n3),?_⟩;simp only[wd];rw[yr (h.mono _ _ (Si ..)) c,Ja,dp (h.mono _ _ aa) d,dp (h.mono _ _ aa) i,jU]
def zel(h:ti F W){st st'}{o}(hs:Pc W st o=some st'):∃m,Pc (F m) st o=some st':=by
 grind [Pc,Option.bind_eq_some_iff,BA]
theorem iP(h:ti F W):∀{l}{st st'},Tf W l st=some st'->∃m,Tf (F m) l st=some st'
 |[],_,_,hs=>⟨0,hs⟩
 |o::l,st,st',hs=>by
  obtain⟨s,a,b⟩:=qb hs;obtain⟨n1,c⟩:=zel h a;obtain⟨n2,d⟩:=iP h b;refine⟨max n1 n2,?_⟩;simp only[Tf];rw[SU (h.mono _ _ (Si ..)) c];exact zy (h.mono _ _ (yk ..)) d
theorem Gn(h:ti F W){n}:∀{k}{st}{r},ma W n k st=some r->∃m,ma (F m) n k st=some r
 | .skip,_,_,hs=>⟨0,hs⟩
 | .Ab l p t,st,r,hs=>by
   obtain⟨s,c,d⟩:=qm hs;obtain⟨s1,u,v⟩:=qb c;obtain⟨n1,j⟩:=gP h u;obtain⟨n2,q⟩:=fP h v;refine⟨max n1 n2,?_⟩;simp only[ma];rw[yy (h.mono _ _ (Si ..)) j,Ja,xy (h.mono _ _ (yk ..)) q,fd,d]
 | .Od l p t,st,r,hs=>by
   obtain⟨s,c,d⟩:=qm hs;obtain⟨s1,u,v⟩:=qb c;obtain⟨n1,j⟩:=iP h u;obtain⟨n2,q⟩:=By h v;refine⟨max n1 n2,?_⟩;simp only[ma];rw[zy (h.mono _ _ (Si ..)) j,Ja,dp (h.mono _ _ (yk ..)) q,fd,d]
 | .seq a b,st,r,hs=>by
   obtain⟨⟨o,s⟩,c,d⟩:=qb hs;obtain⟨n1,j⟩:=Gn h c;cases o with
   |normal=>
    obtain⟨n2,q⟩:=Gn h d;refine⟨max n1 n2,?_⟩;simp only[ma];rw[ei (h.mono _ _ (Si ..)) (Aa n) j];exact ei (h.mono _ _ (yk ..)) (Aa n) q
   |exit i=>exact⟨n1,by grind [ma]⟩
   |ret=>exact⟨n1,by simp only[ma];grind⟩
 | .cond x a b,st,r,hs=>by
   simp only[ma]at hs⊢;split at hs
   ·rename_i t e
    cases t
    ·exact Gn h hs
    ·exact Gn h hs
   grind
 | .block id b,st,r,hs=>by
   simp only[ma]at hs⊢;obtain⟨s,c,d⟩:=qm hs;obtain⟨n1,j⟩:=Gn h c
   grind
 | .range f k lv g,st,r,hs=>by
   grind [ma,C2]
 | .loop lv b,st,r,hs=>by
   simp only[ma]at hs⊢;have y:∀(k nb:Nat)(st:St)(r:Out×St),Ac (ma W n b) lv nb k st=some r->∃m,Ac (ma (F m) n b) lv nb k st=some r:=by
    intro k nb
    induction k with
    |zero=>intro st r h;cases h
    |succ k w=>
     intro st r hs;obtain⟨⟨o,s⟩,c,d⟩:=qb hs;obtain⟨n1,j⟩:=Gn h c;cases o with
     |normal=>
      obtain⟨n2,q⟩:=w _ r d;refine⟨max n1 n2,?_⟩;simp only[Ac];rw[ei (h.mono _ _ (Si ..)) (Aa n) j];exact OD (fun s r hs=>ei (h.mono _ _ (yk ..)) (Aa n) hs) (Aa k) q
     |exit i=>exact⟨n1,by simp only[Ac];grind⟩
     |ret=>exact⟨n1,by simp only[Ac];grind⟩
   grind
 | .exit id lv,_,_,hs=>⟨0,hs⟩
 | .ret lv,_,_,hs=>⟨0,hs⟩
def WC:ti (Df code lib) (da code lib):=⟨fun n m h=>ws h,fun f a b o r h=>Im.1 h⟩
def kP{f}{k}(d:code f=some k){args}{bx}{oc}{r}{n}(h:En (da code lib) n k args bx oc=some r):da code lib f args bx oc=some r:=by
 unfold En at h;split at h
 case isFalse=>cases h
 rename_i e;obtain⟨p,a,b⟩:=qb h;obtain⟨m,c⟩:=Gn WC a;refine Im.2 ⟨max m n+1,?_⟩;rw[Ju,d];dsimp only;unfold En;rw[if_pos e,ei (ws (Si m n)) (yk m n) c];exact b
def E2(w:code kb=none){args}{bx}{oc}{r}{n}(h:Bl (da code lib) code n args bx oc=some r):da code lib kb args bx oc=some r:=by
 unfold Bl at h;split at h
 case h_2=>cases h
 split at h
 case h_2=>cases h
 rename_i z f k live g e;obtain⟨C,i,h⟩:=qb h;obtain⟨q,j,h⟩:=qb h;split at h
 case isFalse=>cases h
 rename_i x;obtain⟨⟨D,s1⟩,l,a⟩:=qb h;dsimp only at a;split at a
 case h_2=>cases a
 rename_i e1 A B c d b;obtain⟨p,o,t⟩:=qb a;obtain⟨m,u⟩:=Gn WC l;obtain⟨y,v⟩:=Gn WC o;refine Im.2 ⟨max (max m y) n+1,?_⟩;rw[Ju,w];unfold Bl;dsimp only;rw[e];dsimp only;rw[i,Ja,j,Ja,if_pos x,ei (ws aa) aa u,Ja];rw[b];dsimp only;rw[ei (ws aa) aa v];exact t
def Ef{f}(hf:f≠kb)(a:code f=none){args}{bx}{oc}{r}(h:lib f args bx oc=some r):da code lib f args bx oc=some r:=
 Im.2 ⟨1,by grind [Ju]⟩
def RD{P}{Γ}(g:P.follows .mixedOrders=true)(d:P.funcs[kb]?=none)(a:∀f c,code f=some c->∃lv,Cm P lv f=some c)(b:xc P Γ lib):xc P Γ (da code lib):=fun f args bx oc e os bx' oc' h=>by
 obtain⟨n,i⟩:=Im.1 h;exact w2 g d a b n f args bx oc e os bx' oc' i
open Go.WideShapes Go.ChangeShapes
def wl(w:World)(g:Nat):Nat:=match w.heap[g]? with|some (.cells cs _ _)=>cs.size|_=>0
def U3{w}{g o}{v}(h:w.cell? ⟨g,o,none⟩=some v):o<wl w g:=by
 grind [World.cell?,wl]
def MU{w:World}{a}{v}(h:w.cell? a=some v):a=⟨a.block,a.off,none⟩:=by
 obtain⟨b,o,s⟩:=a;cases s<;>grind [World.cell?]
def fit(P:Program):Nat->TypeId->List PV->Prop
 |0,_,_=>False
 |n+1,t,ps=>match P.underlying t with
  |some .bool=>∃b,ps=[.flat (.bool b)]
  |some (.int k)=>∃i,ps=[.flat (.int k i)]/\(Lit.int k i).wf=true
  |some .string=>∃s:ByteArray,ps=[.flat (.string s)]/\s.size<=maxLen
  |some (.pointer e)=>ps=[.flat (.pointer none)]\/(P.cellsOf e=0/\ps=[.Hd])\/∃qs,ps=[.vd qs]/\fit P n e qs
  |some (.slice e)=>∃a:List (List PV),ps=[.ia a.length a.flatten]/\a.length<=maxLen/\∀xs∈a,fit P n e xs
  |some (.struct c)=>∃a:List (List PV),ps=a.flatten/\a.length=c.size/\∀(j:Nat)(f:Field)(xs:List PV),c[j]?=some f->a[j]?=some xs->fit P n f.type xs
  |some (.array m e)=>∃a:List (List PV),ps=a.flatten/\a.length=m/\∀xs∈a,fit P n e xs
  |_=>True
def ax(P:Program)(w:World)(n:Nat)(t:TypeId)(cs:List Value):Prop:=∃ps,ta w (wl w) [] ps cs/\gd cs/\fit P n t ps
def WH{w}{base}{a}{n}{cs}(h:w.cells? base a n=some cs)(p:0<n):a=⟨a.block,a.off,none⟩/\Row w (wl w) a.block a.off cs:=by
 obtain⟨_,q,k⟩:=World.cells?_some h;have g:=k 0 p;rw[qe aa]at g;have i:a=⟨a.block,a.off,none⟩:=by
  have:=MU g;obtain⟨b,o,s⟩:=a;simp only[Addr.add]at this;simp_all
 refine⟨i,fun j v l=>?_⟩;have d:j<n:=by have:=(qg l).1;omega
 have c:=k j d;rw[l]at c;have e:a.add j=⟨a.block,a.off+j,none⟩:=by
  have:=MU c;rw[i]at this⊢;unfold Addr.add at this⊢;split
  ·grind
  ·rfl
 rw[e]at c;exact⟨U3 c,c⟩
def zcg{w}{Fr}{g o}{us vs}(h:Row w Fr g o us)(k:Row w Fr g (o+us.length) vs):Row w Fr g o (us++vs):=fun j v a=>by
 by_cases fa:j<us.length
 ·rw[ql fa]at a;exact h j v a
 ·rw[Pf aa]at a
  have:=k (j - us.length) v a
  grind
theorem aT{us vs}(h:gd us)(k:gd vs):gd (us++vs):=fun v a=>(Ue.1 a).elim (h v) (k v)
theorem CH{P}{w}{n}{α:Type}{ty:α->TypeId}{size}:∀(l:List α)(cs),cs.length=(l.map size).sum->
 (∀(j)(f),l[j]?=some f->ax P w n (ty f) ((cs.drop ((l.take j).map size).sum).take (size f)))->
 ∃a:List (List PV),ta w (wl w) [] a.flatten cs/\gd cs/\a.length=l.length/\∀(j:Nat)(f)(xs),l[j]?=some f->a[j]?=some xs->fit P n (ty f) xs
 |[],cs,c,_=>by
  have:cs=[]:=qz na;subst this;exact⟨[],ra,(fun v b=>by cases b),rfl,(fun j f xs h=>by simp at h)⟩
 |f::l,cs,c,h=>by
  obtain⟨ps,b,i,k⟩:=h 0 f rfl;obtain⟨a,d,r,e,t⟩:=CH (P:=P) (w:=w) (n:=n) (ty:=ty) (size:=size) l (cs.drop (size f)) na fun j g p=>by
   have:=h (j+1) g na
   grind [List.drop_drop]
  refine⟨ps::a,?_,?_,by simp[e],fun j g xs o q=>?_⟩
  ·have:=b.append d
   grind [List.take_append_drop]
  ·grind [aT,List.take_append_drop]
  grind
def mapM_at{α γ:Type}{f}{l:List α}{r:List γ}(h:l.mapM f=some r)(j:Nat)(o)(e:l[j]?=some o):∃c,f o=some c:=by
 obtain⟨a,b⟩:=sv h;have d:j<r.length:=by rw[a];exact(qg e).1
 obtain⟨k,g,i⟩:=b j _ (qe d)
 grind
section
variable {H:Type} {enc:TypeId × Value→H} {P:Program} {w:World} {base:Nat} {spare:Nat→Bool} {held:Bool}
def Wn{n}{t}{v}{p}(h:Rd w (wl w) [] p v)(a:v.oneCell'=true)(hf:fit P n t [p]):ax P w n t [v]:=
 ⟨[p],by grind [ta],fun u b=>by grind,hf⟩
theorem CT(m c j)(h:j<=m):(((List.range m).take j).map fun _=>c).sum=j* c:=by
 rw[List.map_const',List.sum_replicate_nat,Se,List.length_range,Nat.min_eq_left h]
def bl{n}{t}{v}(a:v.oneCell'=true)(hf:fit P n t [.Hd]):ax P w n t [v]:=Wn (p:=.Hd) (by simp[Rd]) a hf
theorem zff(K:Kids P (·<P.types.size))(U:∀t e,t<P.types.size->P.underlying t=some (.slice e)->0<P.cellsOf e):∀(n)(t:TypeId)(cs)(x),t<P.types.size->
 DataW.trod enc P w base spare held n t cs=some x->ax P w n t cs:=by
 intro n
 induction n with
 |zero=>intro t cs x _ h;simp[DataW.trod]at h
 |succ n L=>
  intro t cs x ht h;rw[DataW.trod_step]at h;unfold DataW.trodStep at h;split at h
  case h_1 b e=>exact Wn (p:=.flat (.bool b)) (by simp[Rd,Bc]) rfl (by grind [fit])
  case h_2 k k' i e=>
   split at h
   ·exact Wn (p:=.flat (.int k' i)) (by simp[Rd,Bc]) rfl (by grind [fit])
   grind
  case h_3 e=>exact bl rfl (by grind [fit])
  case h_4 s e=>
   split at h
   ·exact Wn (p:=.flat (.string s)) (by simp[Rd,Bc]) rfl (by grind [fit])
   grind
  case h_5 e=>exact Wn (p:=.flat (.pointer none)) (by simp[Rd,Bc]) rfl (by grind [fit])
  case h_6 e a g=>
   simp only[QA,zw]at h;obtain⟨y,⟨u,o,G⟩,rfl⟩:=h;by_cases Q:P.cellsOf e=0
   ·exact bl rfl (by grind [fit])
   ·obtain⟨R,hr⟩:=WH o aa
    obtain⟨qs,v,C,D⟩:=L e u y (K.pointer ht g) G;refine Wn (p:=.vd qs) ?_ rfl (by grind [fit])
    grind [Rd]
  case h_7 e=>
   refine Wn (p:=.ia 0 []) ?_ rfl (by simp only[fit,e];exact⟨[],rfl,Cb _,fun _ h=>by cases h⟩)
   grind [Rd]
  case h_8 e a len O g=>
   have J:=U t e ht g;split at h
   case isFalse=>cases h
   simp only[zw]at h;obtain⟨D,F,_⟩:=h;have u:∀i,i<len->∃cs y,w.cells? base (a.add (i* P.cellsOf e)) (P.cellsOf e)=some cs/\DataW.trod enc P w base spare held n e cs=some y:=fun i T=>by
    obtain⟨c,o⟩:=mapM_at F i i (List.getElem?_range T)
    grind [Option.bind_eq_some_iff]
   by_cases Q:len=0
   ·refine Wn (p:=.ia 0 []) ?_ rfl (by simp only[fit,g];exact⟨[],rfl,Cb _,fun _ h=>by cases h⟩)
    grind [Rd]
   ·have H:∀k,k<=len->∃(vs:List Value)(d:List (List PV)),vs.length=k* P.cellsOf e/\Row w (wl w) a.block a.off vs/\ta w (wl w) [] d.flatten vs/\gd vs/\d.length=k/\∀xs∈d,fit P n e xs:=by
     intro k
     induction k with
     |zero=>exact fun _=>⟨[],[],ea,(fun j v l=>by grind),ra,(fun v S=>by cases S),rfl,fun _ h=>by cases h⟩
     |succ k v=>
      intro W;obtain⟨vs,d,z,q,r,A,M,V⟩:=v aa;obtain⟨cs,y,C,N⟩:=u k aa;obtain⟨qa,X⟩:=WH C J;obtain⟨ps,r1,r2,r3⟩:=L e cs y (K.slice ht g) N;have S:cs.length=P.cellsOf e:=(World.cells?_some C).2.1;refine⟨vs++cs,d++[ps],na,zcg q ?_,by simpa using r.append r1,aT A r2,by simp[M],fun xs B=>?_⟩
      ·grind [Addr.add]
      grind
    obtain⟨vs,d,z,q,r,A,M,V⟩:=H len (Aa _);refine Wn (p:=.ia d.length d.flatten) ?_ rfl (by simp only[fit,g];grind);have R:a=⟨a.block,a.off,none⟩:=by
     obtain⟨cs,y,C,N⟩:=u 0 aa;obtain⟨qa,_⟩:=WH C J;unfold Addr.add at qa;simpa using qa
    grind [Rd]
  case h_9 u g=>
   obtain⟨s1,I,v⟩:=K.struct ht g;split at h
   case isFalse=>cases h
   rename_i o;obtain⟨xs,B,_⟩:=qm h;obtain⟨d,z,q,r,A⟩:=CH (P:=P) (w:=w) (n:=n) (ty:=Field.type) (size:=fun f=>P.cellsOf f.type) u.toList _ (by rw[o,I]) fun j f l=>by
    obtain⟨c,E⟩:=mapM_at B j f l
    grind
   exact⟨d.flatten,z,q,by grind [fit]⟩
  case h_10 m e g=>
   obtain⟨s1,I⟩:=K.array ht g;split at h
   case isFalse=>cases h
   rename_i o;obtain⟨xs,B,_⟩:=qm h;obtain⟨d,z,q,r,A⟩:=CH (P:=P) (w:=w) (n:=n) (ty:=fun _=>e) (size:=fun _=>P.cellsOf e) (List.range m) _ (by rw[o,I];have:=CT m (P.cellsOf e) m (Aa _);grind) fun j f l=>by
    obtain⟨c,E⟩:=mapM_at B j f l
    grind [CT]
   refine⟨d.flatten,z,q,?_⟩;simp only[fit,g];refine⟨d,rfl,by rw[r];simp,fun ys G=>?_⟩;obtain⟨j,l⟩:=List.getElem?_of_mem G;have u:j<m:=by have:=(qg l).1;rw[r]at this;simpa using this
   exact A j j ys (List.getElem?_range u) l
  case h_11 e=>exact bl rfl (by grind [fit])
  case h_12 e=>exact bl rfl (by grind [fit])
  case h_13 e=>exact bl rfl (by simp only[fit,e])
  case h_14 e=>exact bl rfl (by simp only[fit,e])
  case h_15 e=>exact bl rfl (by simp only[fit,e])
  case h_16 e=>exact bl rfl (by grind [fit])
  case h_17 e=>exact bl rfl (by grind [fit])
  case h_18 e=>exact bl rfl (by grind [fit])
  case h_19 e=>exact bl rfl (by grind [fit])
  case h_20 e=>exact bl rfl (by grind [fit])
  grind
def Dl(P:Program)(n:Nat)(t:TypeId)(p:PV):Prop:=match P.underlying t with
 |some (.struct _)|some (.array _ _)=>∃ps,p=.agg ps/\fit P n t ps
 |_=>fit P n t [p]
def fits(P:Program):List TypeId->List PV->Prop
 |[],[]=>True
 |t::a,p::ps=>(∃n,Dl P n t p)/\fits P a ps
 |_,_=>False
def gY{r}{a}{t}{v}(h:Cell.okWide P w r a t v):v.cells=#[v]:=by
 cases v
 case agg cs=>
  exfalso;unfold Cell.okWide at h;split at h
  all_goals first
   |(simp_all;done)
   |skip
  unfold Cell.ok at h;split at h<;>simp_all
 all_goals rfl
theorem BW(K:Kids P (·<P.types.size))(o:∀t e,t<P.types.size->P.underlying t=some (.slice e)->0<P.cellsOf e){r}{j}{t:TypeId}{v}{d}{ps}(ht:t<P.types.size)(c:Value.okWide P w r j t v)
 (h:DataW.Trod enc P w base spare held t v d ps):∃n p,Rd w (wl w) [] p v/\Dl P n t p:=by
 obtain⟨n,l⟩:=h;obtain⟨qs,g,i,y⟩:=zff K o n t _ _ ht l;unfold Value.okWide at c;split at c
 case h_1 k e=>
  obtain⟨cs,rfl,_⟩:=c;refine⟨n,.agg qs,?_,by grind [Dl]⟩;exact⟨cs.toList,ea,g,i⟩
 case h_2 m k e=>
  obtain⟨cs,rfl,_⟩:=c;refine⟨n,.agg qs,?_,by grind [Dl]⟩;exact⟨cs.toList,ea,g,i⟩
 case h_3 e1 e2=>
  have k:=gY c;rw[k]at g;obtain⟨p,q,rfl⟩:∃p q,qs=p::q:=by
   cases qs<;>grind [ta]
  obtain⟨u,A,⟨rfl,rfl⟩,x,z⟩:=g;have:q=[]:=by
   cases q with
   |nil=>rfl
   |cons a b=>grind [ta]
  refine⟨n,p,x,?_⟩
  grind [Dl]
theorem JJ(K:Kids P (·<P.types.size))(i:∀t e,t<P.types.size->P.underlying t=some (.slice e)->0<P.cellsOf e){r}{k}:∀{c:List TypeId}{vs}{g}{ps},(∀t∈c,t<P.types.size)->
 (∀(j:Nat) t v,c[j]?=some t->vs[j]?=some v->Value.okWide P w r k t v)->DataW.TrodAll enc P w base spare held c vs g ps->∃mi,ta w (wl w) [] mi vs/\fits P c mi
 |[],vs,g,ps,_,_,h=>by
  cases vs<;>cases g<;>simp[DataW.TrodAll]at h;exact⟨[],ra,trivial⟩
 |t::c,vs,g,ps,b,a,h=>by
  obtain⟨v,A,d,l,p,q,rfl,rfl,rfl,o,u⟩:=trodAll_cons h;obtain⟨n,z,D,x⟩:=BW K i (b t ea) (a 0 t v rfl rfl) o;obtain⟨mi,E,y⟩:=JJ K i (fun t ht=>b t (by simp[ht])) (fun j t v B C=>a (j+1) t v na na) u;exact⟨z::mi,by grind [ta],⟨n,x⟩,y⟩
end
theorem xV{H}{enc}{P}{W i}(K:Kids P (·<P.types.size))(l:∀t e,t<P.types.size->P.underlying t=some (.slice e)->0<P.cellsOf e)(j:Below W.heap.size W i):∀{g:List TypeId}{vs}{c:List (DataW H)}{ps},(∀t∈g,t<P.types.size)->
 DataW.TrodAll enc P W 0 (fun _=>true) true g vs c ps->DataW.TrodAll enc P i 0 (fun b=>decide (b<W.heap.size)) true g vs c ps
 |[],vs,c,ps,_,h=>by
  grind [DataW.TrodAll]
 |t::g,vs,c,ps,a,h=>by
  have fa:=DataW.TrodAll.lt h;obtain⟨v,x,d,o,p,q,rfl,rfl,rfl,⟨n,r⟩,u⟩:=trodAll_cons h;refine⟨p,q,⟨n,?_⟩,xV K l j (fun t ht=>a t (by simp[ht])) u,rfl⟩;have w:=DataW.trod_respare (spare':=fun b=>decide (b<W.heap.size)) K l n _ _ _ (a t ea) r fun m k=>by
   grind
  exact DataW.trod_carry n _ _ _ w fun m k=>j.same (fa m (Ue.2 (.inl k)))
def zbq{H}{enc}{P}{W o}{f:Func}{s:ChangeSpec}{args}{g i}{b}{tb}(K:Kids P (·<P.types.size))(z:∀t e,t<P.types.size->P.underlying t=some (.slice e)->0<P.cellsOf e)
 (r:DataW.Whole enc P f.params.toList s.vars false W args.toList g i b) (a:s.vars=[]) (c:s.fn H g={results:=[.lit (.bool true)],args:=g}) (d:f.resultTypes=#[tb]) (n:P.underlying tb=some .bool) (v:∀t∈f.params.toList,t<P.types.size)
 (u:Below W.heap.size W o):s.post enc P f false true false false W args (.bool true) o:=by
 have k:=r;obtain⟨p,q,w,j,rfl,x,y⟩:=r;have l:i=[]/\q=[]:=by
  rw[a]at j;cases i<;>simp[DataW.TrodVars]at j;exact⟨rfl,j⟩
 obtain⟨rfl,rfl⟩:=l;refine⟨g,[],_,[],p,[],k,?_,?_,?_,u.frame _,fun h=>by cases h⟩
 ·rw[Sg,c,d]
  exact trodAll_mk1 (shut_bool n true)
 ·grind [xV]
 ·rw[Sg,c,a]
  rfl
theorem yV{H}{enc}{P}{w}{base}{spare}{held}:∀{b}{vs}{a:List (DataW H)}{ps},DataW.TrodAll enc P w base spare held b vs a ps->a.length=b.length
 |[],vs,a,ps,h=>by grind [DataW.TrodAll]
 |t::b,vs,a,ps,h=>by
  obtain⟨v,g,d,c,p,q,rfl,rfl,rfl,_,e⟩:=trodAll_cons h;simp[yV e]
variable {P:Program} {Γ:lf} {cf:Callee}
def ZX(h:xc P Γ cf){f}(hf:f≠kb){args}{v}{os}{bx}{oc}(d:cf f args [] []=some ([.flat v],os,bx,oc)){w}{Fr}{vs}(c:Γ.G w)(hr:ta w Fr [] args vs):
 Calls P f vs.toArray w fun e w'=>e=.returned v/\Below w.heap.size w w':=by
 have b:=h f args [] [] _ _ _ _ d w Fr [] vs ⟨c,hr,UH w Fr,(fun L h=>by cases h),fun g _=>zp⟩;unfold Enters at b;rw[if_neg hf]at b;refine b.2.mono ?_;rintro e w' ⟨v0,Fr',β',rfl,a⟩;have:=a.rd;obtain⟨rfl,_⟩:=this;exact⟨rfl,a.rel.os,a.rel.tape,a.rel.output,a.le.size,fun k i=>(a.rel.old k i zp).1⟩
def zo(P:Program)(Γ:lf)(f:FuncId)(spec:List Value->Option Value):Prop:=Qj P f=true/\∀vs v,spec vs=some v->Bc v=true/\∀w,Γ.G w->Calls P f vs.toArray w fun e w'=>e=.returned v/\Below w.heap.size w w'
def jp:List PV->Option (List Value)
 |[]=>some []
 | .flat v::r=>(jp r).map (v::·)
 |_=>none
def Mk(spec:FuncId->List Value->Option Value):Callee:=fun f args bx oc=>match bx,oc with
 |[],[]=>((jp args).bind (spec f)).map fun v=>([.flat v],false,[],[])
 |_,_=>none
theorem ZD{w}{Fr}{β}:∀{args}{us vs},jp args=some us->ta w Fr β args vs->vs=us
 |[],us,vs,h,k=>by grind [jp,ta]
 |p::r,us,vs,h,k=>by
  cases p<;>simp only[jp]at h<;>try (cases h;done)
  obtain⟨d,a,rfl⟩:=qm h;obtain⟨u,e,rfl,b,c⟩:=k;rw[b.1,ZD a c]
def B3{spec}(c:∀f vs v,spec f vs=some v->f≠kb)(h:∀f vs v,spec f vs=some v->zo P Γ f (spec f)):xc P Γ (Mk spec):=by
 intro f args bx oc q os bx' oc' b;unfold Mk at b;split at b
 case h_2=>cases b
 obtain⟨v,p,b⟩:=qm b;cases b;obtain⟨us,g,a⟩:=qb p;obtain⟨i,j⟩:=h f us v a;intro w Fr β vs d;refine enters_of i (c f us v a) ?_;obtain rfl:=ZD g d.args;obtain⟨k,l⟩:=j _ v a;refine(l w d.g).mono ?_;rintro e w' ⟨rfl,n⟩;obtain⟨R,o⟩:=d.rel.grow n (Fr':=Fr) fun _ _=>rfl
 exact⟨v,Fr,β,rfl,by simp[ed,Rd,k],R,o,(fun L h=>by cases h),fun h=>by cases h⟩
def Rn(x:Option (Out×St))(Q:Out->St->Prop):Prop:=∃o s,x=some (o,s)/\Q o s
theorem Rn.mono{x}{Q R}(h:Rn x Q)(k:∀o s,Q o s->R o s):Rn x R:=by
 obtain⟨o,s,a,b⟩:=h;exact⟨o,s,a,k o s b⟩
def ja:Nat:=2^64
def zm{p:Prop}(h:p:=by unfold ja;omega):p:=h
end ya

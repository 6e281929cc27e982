/- Texts of this proof, merged. -/
import Derived.Test.YtglaihdcndcmkaaGreatDoorTa
import Derived.RangeFuncIn
import Derived.Orders
import Derived.ReadAgain
import Derived.ChangeSame
import Derived.ChangeReads
import Derived.DataReads
import Derived.WideShapes
set_option linter.all false
open Go Go.RowKit
set_option maxHeartbeats 4000000
namespace ya
structure ue where
 D:Nat→Prop
 G:World→Prop
 lt:∀ w,G w→∀ g,D g→g<w.heap.size
 Gf:∀ w w',G w→(∀ g,D g→w'.heap[g]? =w.heap[g]?)→G w'
def Rh:Act:=⟨#[],[]⟩
def uh(bx:Na)(oc:List Loc):St:=⟨[],oc,[],bx⟩
def ud(w:World)(β:List Nat)(oc:List Loc)(g:Nat):Prop:=g∈β\/∃L∈oc,∃v,Ga Rh w β L=some v/\v.ownBlock=some g
structure wm (P:Program) (Γ:ue) (w:World) (Fr:Nat→Nat) (β:List Nat) (args:List PV) (vs:List Value) (bx:Na) (oc:List Loc):Prop where
 g:Γ.G w
 args:ra w Fr β args vs
 rel:Rel P [] w.heap.size (ud w β oc) w Fr 0 (uh bx oc) Rh w Fr β
 cells:∀ L∈oc,Ba L=true
 Fi:∀ g,Γ.D g→¬ ud w β oc g
structure Ci (P:Program) (w:World) (Fr:Nat→Nat) (β:List Nat) (oc:List Loc) (vs':List PV) (os:Bool) (bx':Na) (oc':List Loc) (v:Value) (w':World) (Fr':Nat→Nat) (β':List Nat):Prop where
 rd:Rd w' Fr' β' (Rc vs') v
 rel:Rel P [] w.heap.size (ud w β oc) w Fr 0 (uh bx' oc') Rh w' Fr' β'
 le:Le w Fr β w' Fr' β'
 cells:∀ L∈oc',Ba L=true
 own:os=true→og P w' Fr' (Rc vs') v∧∀ g,v.ownBlock=some g→(w.heap.size≤g∨ud w β oc g)∧g ∉ β'∧∀ L∈oc',∀ u,Ga Rh w' β' L=some u→u.ownBlock≠some g
def Uj(P:Program)(f:FuncId):Bool:=match P.funcs[f]? with
 |some fn=>fn.name != "runtime.NumGoroutine" &&fn.body.isSome
 |none=>false
def Enters(P:Program)(f:FuncId)(vs:List Value)(w:World)(R:Ending->World->Prop):Prop:=
 if f=hb then∃l az r,vs=.func (.yield l) #[] #[]::az/\w.heap[l]?=some (.loop r)/\az.length=r.params.size/\
  RoundIn Fence.wide 0 P l r.fn ((r.params.zip az.toArray).foldl (fun tmps(t,a)=>tmps.setIfInBounds t a) r.tmps) r.assign r.body w R
 else Uj P f=true/\Calls P f vs.toArray w R
theorem Enters.mono{P}{f}{vs}{w}{R b}(h:Enters P f vs w R)(k:∀e w',R e w'->b e w'):Enters P f vs w b:=by
 unfold Enters at h⊢;split
 ·rename_i a
  rw[if_pos a]at h;obtain⟨l,az,r,c,d,g,i⟩:=h;exact⟨l,az,r,c,d,g,i.mono k⟩
 ·rename_i a
  rw[if_neg a]at h;exact⟨h.1,h.2.mono k⟩
def enters_of{P}{f}{vs}{w}{R}(h:Uj P f=true)(a:f≠hb)(k:Calls P f vs.toArray w R):Enters P f vs w R:=by
 grind [Enters]
def Gb(P:Program)(Γ:ue)(cf:Callee):Prop:=∀f args bx oc a os bx' oc',cf f args bx oc=some (a,os,bx',oc')->∀w Fr β vs,wm P Γ w Fr β args vs bx oc->
 Enters P f vs w fun e w'=>∃v Fr' β',e=.returned v/\Ci P w Fr β oc a os bx' oc' v w' Fr' β'
section
variable {P:Program} {w w':World} {Fr Fr':Nat→Nat} {β β':List Nat} {T:List Deferred} {base nt:Nat} {M:Nat→Prop} {w0:World} {F0:Nat→Nat} {st st':St} {a a':Act} {cf:Callee}
mutual
theorem uT:∀(p:PV)(v:Value),p.sj=true->Rd w Fr β p v->Rd w Fr β' p v
 | .Ad,_,h,_=>by cases h
 | .flat u,v,_,k=>by grind [Rd]
 | .ga n cs,v,h,k=>by
   obtain⟨b,d,a,e,i⟩:=k;refine⟨b,d,a,e,i.imp id ?_⟩;rintro⟨g,o,vs,j,hr,hs,c⟩;exact⟨g,o,vs,j,hr,Tp cs vs h hs,c⟩
 | .agg cs,v,h,k=>by
   obtain⟨vs,a,hs,c⟩:=k;exact⟨vs,a,Tp cs vs h hs,c⟩
 | .Jc cs,v,h,k=>by
   obtain⟨vs,a,hs⟩:=k;exact⟨vs,a,Tp cs vs h hs⟩
 | .ptr b o,v,h,k=>by cases h
 | .xd cs,v,h,k=>by
   obtain⟨g,o,vs,a,hr,hs,c⟩:=k;exact⟨g,o,vs,a,hr,Tp cs vs h hs,c⟩
 | .cb f cs,v,h,k=>by cases h
 | .tag f cs,v,h,k=>by
   obtain⟨vs,a,hs⟩:=k;exact⟨vs,a,Tp cs vs h hs⟩
 | .Oa b,v,h,k=>by cases h
 | .we _ _ _,v,h,k=>by cases h
 | .lp _ _ _ _ _,v,h,k=>by cases h
theorem Tp:∀(ps:List PV)(vs:List Value),Eb ps=true->ra w Fr β ps vs->ra w Fr β' ps vs
 |[],vs,_,k=>by grind [ra]
 |p::ps,vs,h,k=>by
  simp only[Eb,cc]at h;obtain⟨v,r,a,e,i⟩:=k;exact⟨v,r,a,uT p v h.1 e,Tp ps r h.2 i⟩
end
theorem zhj:∀(vs),Eb vs=true->(Rc vs).sj=true
 |[],_=>rfl
 |[v],h=>by grind [Eb,Rc]
 |v::u::r,h=>h
theorem kt{base}{w}:Marks [] base w []:=⟨[],List.nodup_nil,rfl,fun D h=>by cases h⟩
def IA(w)(Fr):Rel P [] w.heap.size (ud w [] []) w Fr 0 (uh [] []) Rh w Fr []:=
 ⟨fun i=>by simp[uh,look,Rd],rfl,kt,⟨rfl,fun b cs h=>by grind [uh]⟩,List.nodup_nil,(fun L h=>by cases h),(fun L h=>by cases h),(fun L h=>by cases h),(fun p h=>by cases h),(fun g h=>by
  rcases h with h|⟨L,h,_⟩
  ·cases h
  ·cases h),fun _ _ _=>⟨rfl,rfl⟩,Aa _,rfl,rfl,rfl⟩
def Tl{g}:¬ud w [] [] g:=by
 rintro(h|⟨L,h,_⟩)<;>cases h
theorem xi{L}(h:Ba L=true):Ga a w β L=Ga Rh w β L:=by
 cases L with
 |slot i=>cases h
 |cell b j=>rfl
theorem DA{L}(h:Ba L=true){oc}:ab st L=ab (uh st.bx oc) L:=by
 cases L with
 |slot i=>cases h
 |cell b j=>rfl
def Rel.boxes(R:Rel P T base M w0 F0 nt st a w Fr β):Rel P [] w.heap.size (ud w β (st.ow.filter Ba)) w Fr 0 (uh st.bx (st.ow.filter Ba)) Rh w Fr β:=by
 have b:∀L,L∈st.ow.filter Ba->L∈st.ow/\Ba L=true:=fun L h=>by grind
 refine⟨fun i=>by simp[uh,look,Rd],rfl,kt,R.bx,R.nd,fun L d=>?_,fun L d r o q v u g e j=>?_,fun L d v g e=>?_,(fun p h=>by cases h),fun g t=>.inr ?_,fun _ _ _=>⟨rfl,rfl⟩,Aa _,rfl,rfl,rfl⟩
 ·obtain⟨c,k⟩:=b L d
  obtain⟨v,p,l,n,x⟩:=R.own L c
  grind [xi,DA]
 ·obtain⟨c,k⟩:=b L d
  obtain⟨l,n⟩:=b r o;rw[<-xi (a:=a) k]at e;rw[<-xi (a:=a) n]at j;exact R.sep L c r l q v u g e j
 ·obtain⟨c,k⟩:=b L d
  rw[<-xi (a:=a) k]at e;exact R.out L c v g e
 ·exact t
theorem iv{f}(b:Uj P f=true){args}:(callFunc f args).run P w=.ok (.enter f args) w:=by
 unfold Uj at b;split at b
 ·rename_i fn a
  have c:fn.body.isNone=false:=by cases h:fn.body<;>simp_all
  simp only[callFunc,Fb];show(Result.andThen (.ok P w) _:Result Next)=_;simp only[Nb,a,c];simp_all
 grind
def Rel.cK(R:Rel P T base M w0 F0 nt st a w Fr β){d}{p}{v}(x:a.tmps.getD d undef=v)(C:look st.sl d=p)(B:og P w Fr p v)
 (A:∀g,v.ownBlock=some g->(base<=g\/M g)/\g∉β/\∀L∈st.ow,L≠.slot d->∀u,Ga a w β L=some u->u.ownBlock≠some g):Rel P T base M w0 F0 nt {st with ow:=.slot d::st.ow} a w Fr β:=by
 have y:Ga a w β (.slot d)=some v:=by simp only[Ga,x]
 have t:∀L,ab {st with ow:=.slot d::st.ow} L=ab st L:=fun L=>IU rfl rfl
 refine⟨R.sl,R.nt,R.df,R.bx,R.nd,fun L b=>?_,fun L b o i l u z g h n c k=>?_,fun L b u g h c=>?_,R.al,fun g c=>?_,R.old,R.ge,R.os,R.tape,R.output⟩
 ·rcases wb.1 b with rfl|b
  ·grind [ab]
  ·obtain⟨u,q,j,r,D⟩:=R.own L b
   grind
 ·by_cases e:L=.slot d
  ·grind
  ·have j:=(wb.1 b).resolve_left e
   by_cases r:o=.slot d
   ·grind
   ·exact R.sep L j o ((wb.1 i).resolve_left r) l u z g h n c k
 ·by_cases e:L=.slot d
  ·grind
  ·exact R.out L ((wb.1 b).resolve_left e) u g h c
 ·rcases c with c|⟨L,b,u,h,c⟩
  ·exact R.may g (.inl c)
  ·by_cases e:L=.slot d
   ·grind
   ·exact R.may g (.inr ⟨L,(wb.1 b).resolve_left e,u,h,c⟩)
theorem kD{S}{dst}{f}{args}{vs'}{os}{bx'}{oc'}{v}(Q:Ci P w Fr β (st.ow.filter Ba) vs' os bx' oc' v w' Fr' β')(hs:Lc (fun _ _ _ _=>some (vs',os,bx',oc')) st dst f args=some st')(hdZ:∀d,dst=some d->d<S.nt)
 (R:Rel P S.T S.base S.M S.w0 S.F0 S.nt st a w Fr β) (hlZ:Le S.sw S.sF S.sβ w Fr β) {K:Act->World->Prop} (hKZ:∀a' w',Rl P S st' a' w'->K a' w'):K (a.put dst v) w':=by
 unfold Lc at hs
 ·simp only[jd,Pb]at hs
  have B:∀L,L∈st.ow.filter Ba->L∈st.ow/\Ba L=true:=fun L h=>by grind
  have Y:∀g,ud w β (st.ow.filter Ba) g->S.base<=g\/S.M g:=fun g c=>R.may g (c.imp id fun⟨L,k,v,l,h3Z⟩=>⟨L,(B L k).1,v,by grind [xi],h3Z⟩)
  have A:∀L∈st.ow,Ba L=false->∀u g,Ga a w β L=some u->u.ownBlock=some g->g<w.heap.size/\¬ud w β (st.ow.filter Ba) g:=fun L y hcZ u g t c=>by
   obtain⟨I,p,H,M,V⟩:=R.own L y;rw[t]at H;cases H;refine⟨V.lt c,?_⟩;rintro(h|⟨C,k,I,l,h3Z⟩)
   ·exact R.out L y u g t c h
   ·obtain⟨O,T⟩:=B C k
    rw[<-xi (a:=a) T]at l;exact R.sep L y C O (fun e=>by grind) u I g t l c h3Z
  have G:∀L,Ba L=false->Ga a w' β' L=Ga a w β L:=fun L hcZ=>by
   cases L with
   |slot i=>rfl
   |cell b j=>cases hcZ
  have Z:oc'.filter Ba=oc':=fx.2 Q.cells;rw[Z]at hs;obtain⟨N,r⟩:∃N:St,N={st with bx:=bx',ow:=oc'++st.ow.filter (fun L=>!Ba L),al:=st.al.filter fun p=>!Ba p.2}:=⟨_,rfl⟩;have o:∀L,L∈N.ow->(L∈oc'/\Ba L=true)\/(L∈st.ow/\Ba L=false):=fun L y=>by
   grind
  have E:∀L u,Ba L=true->Ga a w' β' L=some u->Ga Rh w' β' L=some u:=fun L u hcZ h=>by grind [xi]
  have RmZ:Rel P S.T S.base S.M S.w0 S.F0 S.nt N a w' Fr' β':=by
   have hdf:Marks S.T S.base w' a.defers:=by
    obtain⟨DsZ,d1Z,d2Z,d3Z⟩:=R.df;refine⟨DsZ,d1Z,d2Z,fun D hDZ=>⟨(d3Z D hDZ).1,?_⟩⟩;have x:=(d3Z D hDZ).2;rw[(Q.rel.old D (Nh.1 x).1 fun X=>?_).1]
    ·exact x
    ·rcases X with X|⟨L,y,u,t,z⟩
     ·obtain⟨obZ,H,M⟩:=R.bx.at X
      grind
     ·obtain⟨I,p,H,_,n,cs,_,M⟩:=R.own L (B L y).1
      rw[xi (B L y).2,t]at H;cases H;rcases M with rfl|⟨g'Z,cap,cur,e,szZ,rfl,V,_⟩
      ·cases z
      ·cases z<;>grind
   refine⟨fun i=>by subst r;exact(R.sl i).mono Q.le,R.nt,hdf,by subst r;exact Q.rel.bx,Q.rel.nd,fun L y=>?_,fun L y C W U u I g t F c J=>?_,fun L y u g t c=>?_,fun q hqZ=>?_,fun g c=>?_,fun b hbZ hMZ=>?_,Vf R.ge Q.rel.ge,Q.rel.os.trans R.os,Q.rel.tape.trans R.tape,Q.rel.output.trans R.output⟩
   ·rcases o L y with⟨k,l⟩|⟨k,l⟩
    ·obtain⟨u,p,H,M,V⟩:=Q.rel.own L k
     refine⟨u,p,by grind [xi],?_,V⟩;subst r;rw[DA l (oc:=oc')];exact M
    ·obtain⟨u,p,H,M,V⟩:=R.own L k
     refine⟨u,p,la,?_,V.kept fun g c=>?_⟩
     ·subst r
      cases L with
      |slot i=>exact M
      |cell b j=>cases l
     ·obtain⟨O,T⟩:=A L k l u g H c
      exact Q.rel.old g O T
   ·rcases o L y with⟨k,l⟩|⟨k,l⟩
    ·rcases o C W with⟨z,x⟩|⟨z,x⟩
     ·exact Q.rel.sep L k C z U u I g (E L u l t) (E C I x F) c J
     ·rw[G C x]at F
      obtain⟨O,T⟩:=A C z x I g F J;rcases Q.rel.may g (.inr ⟨L,k,u,E L u l t,c⟩)with h|h
      ·omega
      grind
    ·rw[G L l]at t
     obtain⟨O,T⟩:=A L k l u g t c;rcases o C W with⟨z,x⟩|⟨z,x⟩
     ·rcases Q.rel.may g (.inr ⟨C,z,I,E C I x F,J⟩)with h|h
      ·omega
      grind
     ·rw[G C x]at F
      exact R.sep L k C z U u I g t F c J
   ·rcases o L y with⟨k,l⟩|⟨k,l⟩
    ·exact Q.rel.out L k u g (E L u l t) c
    ·intro X
     rcases Q.rel.may g (.inl X)with h|h<;>grind
   ·have x:q∈st.al/\Ba q.2=false:=by subst r;simpa using hqZ
    rw[G _ x.2];exact R.al q x.1
   ·rcases c with c|⟨L,y,u,t,c⟩
    ·rcases Q.rel.may g (.inl c)with h|h
     ·exact .inl (Vf R.ge h)
     grind
    ·rcases o L y with⟨k,l⟩|⟨k,l⟩
     ·rcases Q.rel.may g (.inr ⟨L,k,u,E L u l t,c⟩)with h|h
      ·exact .inl (Vf R.ge h)
      grind
     ·rw[G L l]at t
      exact R.may g (.inr ⟨L,k,u,t,c⟩)
   ·obtain⟨O,T⟩:=Q.rel.old b (Ug hbZ R.ge) fun h=>by
     grind
    obtain⟨m3Z,x⟩:=R.old b hbZ hMZ
    grind
  rw[<-r]at hs;cases dst with
  |none=>cases hs;exact hKZ _ _ ⟨Fr',β',RmZ,hlZ.trans Q.le⟩
  |some d=>
   dsimp only at hs;have z:=RmZ.put (hdZ d rfl) Q.rd;have F:d<a.tmps.size:=by rw[R.nt];exact hdZ d rfl
   split at hs
   ·rename_i x
    cases hs;obtain⟨H,M⟩:=Q.own x;refine hKZ _ _ ⟨Fr',β',z.cK (d:=d) (by grind [Qk]) (by simp[St.put,me]) H fun g c=>?_,hlZ.trans Q.le⟩;obtain⟨O,T,m3Z⟩:=M g c;refine⟨O.elim (fun h=>.inl (Vf R.ge h)) (fun h=>Y g h),T,fun L y U u t=>?_⟩;obtain⟨n1,n2⟩:=Ul.1 y
    grind [km]
   ·cases hs
    exact hKZ _ _ ⟨Fr',β',z,hlZ.trans Q.le⟩
def oy{Γ}(l:Gb P Γ cf){S}{dst}{f}{args}{vs}(hs:Lc cf st dst f args=some st')(y:∀d,dst=some d->d<S.nt)
 (R:Rel P S.T S.base S.M S.w0 S.F0 S.nt st a w Fr β) (z:Le S.sw S.sF S.sβ w Fr β) (c:ra w Fr β args vs) (n:Γ.G w) (q:∀g,Γ.D g->g<S.base/\¬S.M g) {K:Act->World->Prop} (x:∀a' w',Rl P S st' a' w'->K a' w'):
 Enters P f vs w fun e w'=>∃v,e=.returned v/\K (a.put dst v) w':=by
 unfold Lc at hs
 ·have j:=hs
  obtain⟨⟨k,os,bx',oc'⟩,p,hs⟩:=qm hs;have o:Lc (fun _ _ _ _=>some (k,os,bx',oc')) st dst f args=some st':=by unfold Lc;rw[p]at j;exact j
  have i:=l f args st.bx (st.ow.filter Ba) k os bx' oc' p;have b:∀L,L∈st.ow.filter Ba->L∈st.ow/\Ba L=true:=fun L h=>by grind
  have r:∀g,ud w β (st.ow.filter Ba) g->S.base<=g\/S.M g:=fun g n=>R.may g (n.imp id fun⟨L,t,v,A,u⟩=>⟨L,(b L t).1,v,by grind [xi],u⟩)
  refine(i w Fr β vs ⟨n,c,R.boxes,fun L h=>(b L h).2,fun g B C=>?_⟩).mono fun e w' h=>?_
  ·grind
  obtain⟨v,Fr',β',rfl,Q⟩:=h;exact⟨v,rfl,kD Q o y R z x⟩
theorem bZ{Γ}(j:Gb P Γ cf){S}{dst}{f}{args}{vs}(hs:Tc cf st dst f args=some st')(u:∀d,dst=some d->d<S.nt)
 (R:Rel P S.T S.base S.M S.w0 S.F0 S.nt st a w Fr β) (q:Le S.sw S.sF S.sβ w Fr β) (b:ra w Fr β args vs) (l:Γ.G w) (c:∀g,Γ.D g->g<S.base/\¬S.M g) {K:Act->World->Prop} (p:∀a' w',Rl P S st' a' w'->K a' w'):
 Enters P f vs w fun e w'=>∃v,e=.returned v/\K (a.put dst v) w':=by
 unfold Tc at hs;split at hs
 case isFalse=>exact oy j hs u R q b l c p
 rename_i x;obtain⟨⟨o,os,bx',oc'⟩,C,hs⟩:=qb hs;dsimp only at hs;split at hs
 case isFalse=>exact oy j hs u R q b l c p
 rename_i r;have i:=j f args [] [] o os bx' oc' C;refine(i w Fr [] vs ⟨l,Tp args vs x b,IA w Fr,(fun L h=>by cases h),fun g _=>Tl⟩).mono fun e w' h=>?_
 obtain⟨v,Fr',β',rfl,Q⟩:=h;have A:Below w.heap.size w w':=⟨Q.rel.os,Q.rel.tape,Q.rel.output,Q.rel.ge,fun k D=>(Q.rel.old k D Tl).1⟩;have B:∀g,g<w.heap.size->Fr' g=Fr g:=fun g l=>(Q.rel.old g l Tl).2
 have t:Rd w' Fr' β (Rc o) v:=uT _ _ (zhj o r) Q.rd;obtain⟨z,n⟩:=R.grow A B;refine⟨v,rfl,?_⟩;cases dst with
 |none=>cases hs;exact p _ _ ⟨Fr',β,z,q.trans n⟩
 |some d=>
  dsimp only at hs;split at hs
  ·rename_i y
   cases hs;obtain⟨E,F⟩:=Q.own y;exact p _ _ ⟨Fr',β,R.Ic A B (u d rfl) t E (fun g l=>((F g l).1).resolve_right Tl),q.trans n⟩
  ·cases hs
   exact p _ _ ⟨Fr',β,z.put (u d rfl) t,q.trans n⟩
def zcN{l}{o}{b j}(h:b≠l):(w.putObj l o).cell? ⟨b,j,none⟩=w.cell? ⟨b,j,none⟩:=by
 grind [World.cell?,World.putObj_heap_other]
def Rel.PI(R:Rel P T base M w0 F0 nt st a w Fr β){b g}{f k f' k'}{s s'}{live live'}{A snap'}{r'}{Q}(K:st.bx[b]?=some (Q,[.lp f k s live A]))(F:β[b]?=some g)
 (h:Le w Fr β (w.putObj g (.loop r')) Fr β->ms P (w.putObj g (.loop r')) Fr β f' k' s' live' snap' g):
 Rel P T base M w0 F0 nt {st with bx:=st.bx.set b (0,[.lp f' k' s' live' snap'])} a (w.putObj g (.loop r')) Fr β/\Le w Fr β (w.putObj g (.loop r')) Fr β:=by
 have y:g∈β:=di F;obtain⟨X,b1,hF,E⟩:=R.bx.2 b _ K;rw[F]at b1;cases b1;have G:∃r,w.heap[g]?=some (.loop r):=by
  rcases E with⟨vs,e,_,N,_,_⟩|⟨_,_,_,_,_,_,r,D,_⟩
  ·grind [ra,Rd]
  ·grind
 have d:∀k,k≠g->(w.putObj g (.loop r')).heap[k]?=w.heap[k]?:=fun k l=>World.putObj_heap_other l
 have z:Le w Fr β (w.putObj g (.loop r')) Fr β:=⟨ea,fun _ _=>Aa _,fun k j l Z=>zcN fun e=>by grind,fun _ _ h=>h,fun k x l=>by
  grind [World.putObj_heap_same]⟩
 have n:∀L v,Ga a w β L=some v->Ga a (w.putObj g (.loop r')) β L=some v:=fun L v U=>by
  cases L<;>grind [Ga,World.cell?]
 have H:∀L∈st.ow,∀v,Ga a w β L=some v->∀p,ab st L=some p->ab {st with bx:=st.bx.set b (0,[.lp f' k' s' live' snap'])} L=some p:=fun L _ v U p hpZ=>by
  cases L<;>grind [Ga,World.cell?,ab]
 refine⟨R.next z (fun i=>(R.sl i).mono z) R.nt rfl ⟨by simp[R.bx.1],fun J C c=>?_⟩ R.nd (fun g h=>.inl h) some (fun L B=>?_) (fun L _ O _ o W h Y=>o la) (fun L _ O _ _ h=>by cases h) (fun q S=>n _ _ (R.al q S)) (fun k _ l _=>⟨d k fun e=>l (e▸y),rfl⟩) rfl rfl rfl,z⟩
 ·by_cases N:J=b
  ·subst N
   rw[Vg (qg K).1]at c;cases c;exact⟨g,F,hF,.inr ⟨_,_,_,_,_,rfl,h z⟩⟩
  ·rw[rB (Wf N)]at c
   obtain⟨D,t,V,I⟩:=R.bx.2 J C c;have o:D≠g:=fun e=>by
    grind [List.getElem?_inj,nd]
   exact⟨D,t,V,I.kept z (d D o)⟩
 ·obtain⟨u,q,t,I,D⟩:=R.own L B
  refine⟨u,q,n L u t,H L B u t q I,D.kept fun k l=>⟨d k fun e=>?_,rfl⟩,fun k l=>.inr ⟨L,B,rfl,u,t,l⟩⟩;exact R.out L B u k t l (e▸y)
def Rel.zgg{D}{l:List Nat}(R:Rel P T base M w0 F0 nt st a w Fr β)(Y:a.defers=mark D::(l.map mark++T)):
 w.heap[D]?=some (.deferred (some []))/\Rel P T base M w0 F0 nt st {a with defers:=l.map mark++T} (w.putObj D (.deferred none)) Fr β/\Le w Fr β (w.putObj D (.deferred none)) Fr β:=by
 obtain⟨N,U,I,A⟩:=R.df;rw[Y]at I;obtain rfl:D::l=N:=nH I;obtain⟨B,u⟩:∃B,l.map mark++T=B:=⟨_,rfl⟩;rw[u];have e2:=u.symm
 ·obtain⟨hbD,V⟩:=A D ea
  have c:∀k,k≠D->(w.putObj D (.deferred none)).heap[k]?=w.heap[k]?:=fun k E=>World.putObj_heap_other E
  have H:∀g∈β,g≠D:=fun g r e=>by
   obtain⟨o,J,y⟩:=R.bx.at r
   grind
  have Jd:∀g j,(w.putObj D (.deferred none)).cell? ⟨g,j,none⟩=w.cell? ⟨g,j,none⟩:=fun g j=>by
   grind [World.cell?,World.putObj_heap_same]
  have F:Le w Fr β (w.putObj D (.deferred none)) Fr β:=⟨ea,fun _ _=>Aa _,fun k j _ _=>Jd k j,fun _ _ h=>h,fun k x E=>⟨x,(c k fun e=>by grind).trans E⟩⟩;have d:∀L,Ga {a with defers:=B} (w.putObj D (.deferred none)) β L=Ga a w β L:=fun L=>by
   cases L<;>grind [Ga]
  refine⟨V,⟨fun i=>(R.sl i).mono F,R.nt,⟨l,(List.nodup_cons.1 U).2,e2,fun z W=>⟨(A z la).1,(c z fun e=>?_).trans (A z la).2⟩⟩,R.bx.kept F fun g r=>⟨c g (H g r),rfl⟩,R.nd,fun L t=>?_,fun L t O C G v v'Z g=>by rw[d,d];exact R.sep L t O C G v v'Z g,fun L t v g=>by rw[d];exact R.out L t v g,fun q hqZ=>by rw[d];exact R.al q hqZ,
   fun g r=>R.may g (r.imp id fun⟨L,t,v,J,y⟩=>⟨L,t,v,la,y⟩),fun b Z X=>?_,by simpa using R.ge,R.os,R.tape,R.output⟩,F⟩
  ·grind
  ·obtain⟨v,p,J,y,K⟩:=R.own L t
   refine⟨v,p,la,y,K.kept fun g r=>⟨c g fun e=>?_,rfl⟩⟩;obtain⟨n,cs,_,k4Z⟩:=K;rcases k4Z with rfl|⟨g'Z,Q,S,e'Z,szZ,rfl,k5Z,_⟩
   ·cases r
   ·cases r<;>grind
  ·rw[c b aa];exact R.old b Z X
end
def wy(P:Program)(ali:List Nat)(o:Oper):Option Ea:=match o.dst,o.op with
 |some d,.move (.tmp s)=>if d∈ali then some (.mvA s)else none
 |some d,.load t x=>if d∈ali/\Oe P t=some false/\Tg P t=some 1 then(xb x).map .loadA else none
 |_,_=>none
def oH(P:Program)(name:String):List (Nat×Nat):=(List.range P.types.size).filterMap fun t=>
 (P.info? t).bind fun i=>(i.methods.find? (·.name==name)).bind fun m=>match m.func,P.underlying t with
   |some (f,false),some d=>(match d with| .pointer _=>none|_=>if m.path=#[]then some (2* t+1,f)else none)
   |_,_=>none
def L_{P:Program}{name}{k f}(h:(oH P name).lookup k=some f):∃t,k=2* t+1/\∀(v:Value)(w:World),(method (P.types.size+Made.depth) t v name).run P w=.ok (f,v) w:=by
 obtain⟨q,r,h,_⟩:=List.lookup_eq_some_iff.1 h;have a:(k,f)∈oH P name:=by rw[h];simp
 obtain⟨t,ht,a⟩:=gx.1 a;obtain⟨i,l,a⟩:=qb a;obtain⟨m,b,a⟩:=qb a;split at a
 ·rename_i g d j p
  split at a
  ·cases a
  ·rename_i c
   split at a
   ·rename_i o
    cases a;refine⟨t,rfl,fun v w=>?_⟩;have e:=Zi.1 ht;obtain⟨n,e⟩:∃n,P.types.size+Made.depth=n+1:=⟨P.types.size+Made.depth - 1,aa⟩;rw[e,method];simp only[Go.typeInfo,Fb,run_program,Nb,l,qh,b,o,follow,j,receiverAt,run_underlying p];cases d<;>first|rfl|exact absurd rfl (c _)
   ·cases a
 ·cases a
def Hn(P:Program):Op->Option Ea
 | .call {callee:=.invoke x m,args,.. }=>(xb x).bind fun x=>(bp args).map fun xs=>.calli (oH P m) x xs
 | .call {callee:=.value (.func f),args,.. }=>if f=hb then none else(bp args).map fun xs=>.call f xs
 | .call {callee:=.value (.tmp t),args,.. }=>(bp args).map fun xs=>.callv (.t t) xs
 |_=>none
def aW:Ea:=.Wl (.c .Ad)
def In(P:Program)(ali:List Nat)(o:Oper):Option Ea:=match wy P ali o with
 |some c=>some c
 |none=>match ag P o.op with
  |some c=>some c
  |none=>match Nq P o.op with
   |some c=>some c
   |none=>match Hn P o.op with
    |some c=>some c
    |none=>some aW
def Qu(ops:Array Oper):Option (Nat×Bool)->Option (Option (Nat×Bool))
 |none=>some none
 |some (j,a)=>((ops[j]?).bind (·.dst)).map fun s=>some (s,a)
def ji(P:Program)(nt:Nat)(ops:Array Oper)(ali:List Nat)(o:Oper):Option Ta:=
 if o.dst.all (·<nt)then(In P ali o).bind fun c=>(Qu ops o.guard).map fun g=>⟨o.dst,g,c⟩else none
section
variable {P:Program} {w w':World} {r:Option Nat} {Fr Fr':Nat→Nat} {β β':List Nat} {T:List Deferred} {base nt:Nat} {M:Nat→Prop} {w0:World} {F0:Nat→Nat} {st st':St} {a a':Act} {cf:Callee} {Γ:ue} {S:S0}
structure Good (Γ:ue) (S:S0):Prop where
 g:Γ.G S.w0
 Fi:∀ g,Γ.D g→g<S.base∧¬ S.M g
def Good.at(h:Good Γ S)(R:Rel P S.T S.base S.M S.w0 S.F0 S.nt st a w Fr β):Γ.G w:=Γ.Gf _ _ h.g fun g b=>(R.old g (h.Fi g b).1 (h.Fi g b).2).1
theorem q_{o:Oper}{t}{x}{y}(I:o.op=.load t x)(F:Oe P t=some false)(H:Tg P t=some 1)(J:xb x=some y)(hs:ma cf st o.dst (.loadA y)=some st')(E:∀d,o.dst=some d->d<S.nt)(hr:Rl P S st a w){K}{Q}
 (D:∀a' w',Rl P S st' a' w'->K a' w'):o.wpIn (fw r) 0 P a w K Q:=by
 obtain⟨Fr,β,R,G⟩:=hr;obtain⟨d,c,k⟩:=qb hs;have l:=dc R.sl J;split at k
 ·rename_i b g e1
  rw[e1]at l;obtain⟨z,n,l⟩:=l;obtain⟨p,q,rfl⟩:=qm k;obtain⟨cs,h,q⟩:=qb q;obtain⟨h,_,T,vs,e,b1,A,B,N,O,_⟩:=R.bx.cells h;rw[n]at b1;cases b1;obtain⟨v,L,M⟩:=B.get g p q;have Jd:w.cell? ⟨z,g,none⟩=some v:=by
   rw[cell_of_row _ _ _ _ _ _ A];simpa using L
  have i:(execOp a.eval o).run P w=.ok (.value v) w:=by
   have C:=MA (vs:=[v]) F H rfl (w:=w) (b:=z) (o:=g) (fun j u U=>by
    grind) (.inr rfl)
   unfold execOp;rw[I];show(do pure (Next.value (<-Instr.loadAt t (a.eval x))):Sem Next).run P w=_;simp only[Instr.loadAt,Fb,l,Instr.sureAddr,qh,Nb,C];rfl
  refine Lh i ?_;rw[c];refine D _ _ ⟨Fr,β,R.HU (E d c) M rfl ?_,G⟩
  grind [Ga]
 grind
theorem r_{o:Oper}{t}{x}{y}(hoZ:o.op=.load t x)(J:Oe P t=some false)(hnZ:Tg P t=some 1)(hyZ:xb x=some y)(hs:ma cf st o.dst (.loadM y)=some st')(hdZ:∀d,o.dst=some d->d<S.nt)(hr:Rl P S st a w){K}{Q}
 (Z:∀a' w',Rl P S st' a' w'->K a' w'):o.wpIn (fw r) 0 P a w K Q:=by
 obtain⟨Fr,β,R,hlZ⟩:=hr;obtain⟨d,A,c⟩:=qb hs;have I:=dc R.sl hyZ;split at c
 case h_2=>cases c
 rename_i b l e1;rw[e1]at I;obtain⟨N,F,I⟩:=I;obtain⟨p,H,c⟩:=qb c;split at c
 case isFalse=>cases c
 rename_i k;cases c;obtain⟨cs,B,H⟩:=qb H;obtain⟨B,_,g'Z,vs,e,b1,X,Y,b4Z,b5Z,_⟩:=R.bx.cells B;rw[F]at b1;cases b1;obtain⟨v,k1Z,k2Z⟩:=Y.get l p H;have Jd:w.cell? ⟨N,l,none⟩=some v:=by
  rw[cell_of_row _ _ _ _ _ _ X];simpa using k1Z
 have G:(execOp a.eval o).run P w=.ok (.value v) w:=by
  have V:=MA (vs:=[v]) J hnZ rfl (w:=w) (b:=N) (o:=l) (fun j u hjZ=>by
   grind) (.inr rfl)
  unfold execOp;rw[hoZ];show(do pure (Next.value (<-Instr.loadAt t (a.eval x))):Sem Next).run P w=_;simp only[Instr.loadAt,Fb,I,Instr.sureAddr,qh,Nb,V];rfl
 refine Lh G ?_;rw[A];have E:=hdZ d A;have D:d<a.tmps.size:=by rw[R.nt];exact E
 have i:=R.put E (d:=d) k2Z;have z:Ga a w β (.cell b l)=some v:=by simp only[Ga,F,Ja];exact Jd
 have M:∀L,L∈Va d st.ow->Ga (a.put (some d) v) w β L=Ga a w β L:=fun L n=>km D (Ul.1 n).2
 have W:Rel P S.T S.base S.M S.w0 S.F0 S.nt {(st.put d p)with ow:=(Va d st.ow).filter (·≠.cell b l),al:=[]} (a.put (some d) v) w Fr β:=
  ⟨i.sl,i.nt,i.df,i.bx,i.nd,fun L n=>i.own L (Yc.1 n).1,fun L n V j=>i.sep L (Yc.1 n).1 V (Yc.1 j).1,fun L n=>i.out L (Yc.1 n).1,(fun q hqZ=>by cases hqZ),fun g J=>i.may g (J.imp id fun⟨L,n,h⟩=>⟨L,(Yc.1 n).1,h⟩),i.old,i.ge,i.os,i.tape,i.output⟩
 obtain⟨v'Z,p'Z,T,U,m3Z⟩:=R.own _ k;rw[z]at T;cases T;simp only[ab,B,Ja,H,Pb]at U;subst U;refine Z _ _ ⟨Fr,β,W.cK (d:=d) (by rw[Qk a d v d D,if_pos rfl]) (by simp[St.put,me]) m3Z fun g C=>?_,hlZ⟩;refine⟨R.may g (.inr ⟨_,k,_,z,C⟩),R.out _ k _ g z C,fun L n hne u O e=>?_⟩;obtain⟨n1,n2⟩:=Yc.1 n;have n3:L≠.cell b l:=by simpa using n2
 rw[M L n1]at O;exact R.sep _ k L (Ul.1 n1).1 (Wf n3) _ u g z O C e
theorem R_{o:Oper}{s:Nat}(j:o.op=.move (.tmp s))(hs:ma cf st o.dst (.mvA s)=some st')(h:∀d,o.dst=some d->d<S.nt)(hr:Rl P S st a w){K}{Q}
 (g:∀a' w',Rl P S st' a' w'->K a' w'):o.wpIn (fw r) 0 P a w K Q:=by
 obtain⟨Fr,β,R,i⟩:=hr;obtain⟨d,b,c⟩:=qb hs;split at c
 ·cases c
 ·cases c
  have e:(execOp a.eval o).run P w=.ok (.value (a.tmps.getD s undef)) w:=by
   unfold execOp;rw[j];rfl
  refine Lh e ?_;rw[b];exact g _ _ ⟨Fr,β,R.HU (h d b) (R.sl s) (by grind [Xd]) rfl,i⟩
def yZ{a:Act}{sl}(h:∀i,Rd w Fr β (look sl i) (a.tmps.getD i undef)){l}{ys}(b:bp l=some ys):ra w Fr β (ys.map (·.ev sl)) (l.map a.eval).toList:=by
 rw[Array.toList_map];exact zy h b
theorem rK:∀{ys:List X}{sl}{vs},ra w Fr β (ys.map (·.ev sl)) vs->ra w Fr β (ys.map fun x=>(x.ev sl).ib) vs
 |[],_,_,h=>h
 |y::ys,sl,vs,h=>by
  obtain⟨v,r,a,b,c⟩:=h;exact⟨v,r,a,Rd.ib _ _ b,rK c⟩
def Ks{a:Act}{sl}(h:∀i,Rd w Fr β (look sl i) (a.tmps.getD i undef)){l}{ys}(b:bp l=some ys):ra w Fr β (ys.map fun x=>(x.ev sl).ib) (l.map a.eval).toList:=rK (yZ h b)
theorem cZ(I:Gb P Γ cf)(L:Good Γ S){o:Oper}{c}(j:Hn P o.op=some c)(hs:ma cf st o.dst c=some st')(M:∀d,o.dst=some d->d<S.nt)(hr:Rl P S st a w){K}{Q}
 (O:∀a' w',Rl P S st' a' w'->K a' w'):o.wpIn (fw r) 0 P a w K Q:=by
 obtain⟨Fr,β,R,T⟩:=hr;obtain⟨dst,op,ty,E,i,guard⟩:=o;have fin:∀(f:FuncId)(args:List PV)(vs:List Value),f≠hb->Tc cf st dst f args=some st'->ra w Fr β args vs->(execOp a.eval ⟨dst,op,ty,E,i,guard⟩).run P w=(callFunc f vs.toArray).run P w->Oper.wpIn (fw r) 0 P ⟨dst,op,ty,E,i,guard⟩ a w K Q:=fun f args vs q H J N=>by
  have B:=bZ I H M R T J (L.at R) L.Fi O;unfold Enters at B;rw[if_neg q]at B;obtain⟨v,u⟩:=B;have y:(execOp a.eval ⟨dst,op,ty,E,i,guard⟩).run P w=.ok (.enter f vs.toArray) w:=by rw[N,iv v]
  refine⟨fun _ _=>trivial,?_⟩;rw[Oper.semAt_eq _ _ _ fun c j=>by obtain⟨d,M⟩:=Iy j y;cases M];rw[y];refine⟨(fun h=>by cases h),xE.2 (u.mono fun e w' h=>?_)⟩
  grind
 cases op with
 |call cl=>
  obtain⟨callee,args,u⟩:=cl;cases callee with
  |invoke x m=>
   simp only[Hn]at j;obtain⟨X,F,j⟩:=qb j;obtain⟨xs,G,rfl⟩:=qm j;simp only[ma]at hs;split at hs
   ·rename_i k p e1
    obtain⟨f,C,z⟩:=qb hs;clear hs;split at z
    ·cases z
    rename_i q;have y:=dc R.sl F;rw[e1]at y;obtain⟨vs,W,v,r,rfl,H,J⟩:=y;obtain⟨t,rfl,A⟩:=L_ C;refine fin f _ (v::(args.map a.eval).toList) q z ⟨_,_,rfl,Rd.ib _ _ H,Ks R.sl G⟩ ?_;have e1:∀n:Nat,(2* n+1)/2=n/\¬(2* n+1) % 2=0:=fun n=>by omega
    have D:a.eval x=.iface t v:=by rw[W,uo,if_neg (e1 t).2,(e1 t).1];rfl
    show(do let d <-resolve a.eval ⟨.invoke x m,args,u⟩ ty;invoke d.target d.args:Sem Next).run P w=_;simp only[resolve,D,Fb,qh,Nb,invoke];have U:(#[Value.iface t v]++args.map a.eval)[0]?=some (Value.iface t v):=by rw[Array.getElem?_append_left Nat.zero_lt_one];rfl
    have V:(#[Value.iface t v]++args.map a.eval).extract 1 (#[Value.iface t v]++args.map a.eval).size=args.map a.eval:=by
     apply ei;rw[Array.toList_extract,Array.toList_append,Array.size_append];simp only[List.extract,Fa,Ma,lm,zf];rw[xk];simp
    simp only[U,V,callMethod,Fb,run_program,Nb,A];congr 2;apply ei;simp
   ·cases hs
  |builtin b=>cases j
  |value f=>
   cases f with
   |const v=>cases j
   |global g=>cases j
   |func f=>
    simp only[Hn]at j;split at j
    ·cases j
    rename_i q;obtain⟨xs,y,rfl⟩:=qm j;refine fin f _ (args.map a.eval).toList q hs (Ks R.sl y) ?_;show(do let d <-resolve a.eval ⟨.value (.func f),args,u⟩ ty;invoke d.target d.args:Sem Next).run P w=_;simp only[resolve,Deferred.ofValue,Act.eval,Fb,qh,Nb,invoke];congr 2;apply ei;simp
   |tmp t=>
    obtain⟨xs,y,rfl⟩:=qm j;simp only[ma]at hs;split at hs
    ·rename_i f Ya e1
     split at hs
     ·cases hs
     rename_i q;have C:=R.sl t;have A:look st.sl t=.cb f Ya:=e1;rw[A]at C;obtain⟨z,D,G⟩:=C;refine fin f _ ((args.map a.eval).toList++z) q hs ((Ks R.sl y).append G) ?_;show(do let d <-resolve a.eval ⟨.value (.tmp t),args,u⟩ ty;invoke d.target d.args:Sem Next).run P w=_;have:a.eval (.tmp t)=.func (.func f) #[] z.toArray:=D;simp only[resolve,this,Deferred.ofValue,Fb,qh,Nb,invoke];congr 2;simp
    ·rename_i k Ya e1
     split at hs
     ·rename_i F
      have C:=R.sl t;have A:look st.sl t=.tag k Ya:=e1;rw[A]at C;obtain⟨z,D,G⟩:=C;refine fin (k/2) _ (z++(args.map a.eval).toList) F.2 hs (G.append (Ks R.sl y)) ?_;show(do let d <-resolve a.eval ⟨.value (.tmp t),args,u⟩ ty;invoke d.target d.args:Sem Next).run P w=_;have:a.eval (.tmp t)=.func (.func (k/2)) z.toArray #[]:=by rw[show a.eval (.tmp t)=_ from D,uo,if_pos F.1]
      simp only[resolve,this,Deferred.ofValue,Fb,qh,Nb,invoke];congr 2;apply ei;simp
     ·cases hs
    ·rename_i b e1
     have C:=R.sl t;have A:look st.sl t=.Oa b:=e1;rw[A]at C;have V:=C;obtain⟨g,W,D⟩:=C;have F:ra w Fr β (.Oa b::xs.map fun x=>(x.ev st.sl).ib) (.func (.yield g) #[] #[]::(args.map a.eval).toList):=by
      simp only[ra];exact⟨_,_,rfl,la,Ks R.sl y⟩
     have B:=oy I hs M R T F (L.at R) L.Fi O;obtain⟨l,az,rc,H,J,N,U⟩:=B;cases H;have y:(execOp a.eval ⟨dst,.call ⟨.value (.tmp t),args,u⟩,ty,E,i,guard⟩).run P w=.ok (.round g rc.fn ((rc.params.zip (args.map a.eval).toList.toArray).foldl (fun tmps(t,a)=>tmps.setIfInBounds t a) rc.tmps) rc.assign rc.body) w:=by
      rw[<-run_yield J aa];show(do let d <-resolve a.eval ⟨.value (.tmp t),args,u⟩ ty;invoke d.target d.args:Sem Next).run P w=_;have:a.eval (.tmp t)=.func (.yield g) #[] #[]:=D;simp only[resolve,this,Deferred.ofValue,Fb,qh,Nb,invoke];congr 2;apply ei;simp
     refine⟨fun _ _=>trivial,?_⟩;rw[Oper.semAt_eq _ _ _ fun c j=>by grind];rw[y];refine⟨(fun h=>by cases h),RoundIn.mono (R:=fun e w'=>∃v,e=.returned v/\K (a.put dst v) w') U fun e w' h=>?_⟩
     grind
    grind
 |_=>cases j
theorem zaY(e:Gb P Γ cf)(h:Good Γ S){ali}{o}{c}(b:In P ali o=some c)(hs:ma cf st o.dst c=some st')(i:∀d,o.dst=some d->d<S.nt)(hr:Rl P S st a w){K}{Q}
 (g:∀a' w',Rl P S st' a' w'->K a' w'):o.wpIn (fw r) 0 P a w K Q:=by
 unfold In at b;split at b
 ·grind [wy,R_,Option.map_eq_some_iff,q_]
 ·split at b
  ·grind [EV]
  ·split at b
   ·grind [J_]
   ·split at b
    ·grind [cZ]
    ·cases b;simp[ma,aW,bb,X.ev]at hs
theorem gz{ops}{o}{g}{b}(i:Qu ops o.guard=some g)(d:fh st g=some b)(hr:Rl P S st a w):Region.wanted o (yielded ops a.tmps)=b:=by
 obtain⟨Fr,β,R,l⟩:=hr;unfold Qu at i;unfold Region.wanted;split at i
 ·rename_i e;cases i;rw[e];cases d;rfl
 ·rename_i j k e
  rw[e];obtain⟨s,hs,rfl⟩:=qm i;dsimp only;have c:=R.sl s;unfold fh at d;dsimp only at d;have n:yielded ops a.tmps j=match a.tmps[s]? with|some (.bool b)=>some b|_=>none:=by
   unfold yielded;rw[hs];rfl
  split at d
  ·rename_i t e1
   cases d;rw[e1]at c;obtain⟨c,_⟩:=Oc c;have:a.tmps[s]?=some (.bool t):=by
    rw[yo]at c;cases h:a.tmps[s]? with
    |none=>rw[h]at c;cases c
    |some u=>grind
   grind
  ·rename_i e1
   cases d;rw[e1]at c;simp only[Rd,ra]at c;rw[yo]at c
   grind
  grind
theorem eI(q:Gb P Γ cf)(v:Good Γ S){ops}{ali}{o}{c}(e:ji P S.nt ops ali o=some c)(hs:stepG cf st c=some st')(hr:Rl P S st a w){K}{Q}
 (n:∀a' w',Rl P S st' a' w'->K a' w'):if Region.wanted o (yielded ops a.tmps)then o.wpIn (fw r) 0 P a w K Q else(∀f,o.about P w a.eval=some f->(fw r).fn f)/\K (a.put o.dst undef) w:=by
 unfold ji at e;split at e
 case isFalse=>cases e
 obtain⟨t,u,e⟩:=qb e;obtain⟨g,l,rfl⟩:=qm e;obtain⟨b,p,hs⟩:=qb hs;rw[gz l p hr];have j:∀d,o.dst=some d->d<S.nt:=fun d h=>by grind
 cases b with
 |true=>grind [zaY]
 |false=>
  cases hs;obtain⟨Fr,β,R,k⟩:=hr;refine⟨fun _ _=>trivial,n _ _ ?_⟩;cases i:o.dst with
  |none=>exact⟨Fr,β,R,k⟩
  |some d=>exact⟨Fr,β,R.put (j d i) (by exact⟨[],rfl,rfl⟩),k⟩
def Sq(o:Oper)(c:Ta):Ta:=match o.op with
 | .assign x=>(match xb x with|some y=>{c with op:=.mv y}|none=>c)
 |_=>c
def Ho(P:Program)(nt:Nat)(ops:Array Oper)(ali:List Nat)(o:Oper)(c:Ta):Prop:=
 ji P nt ops ali o=some c\/(∃y,c.op=.loadM y/\ji P nt ops ali o=some {c with op:=.loadA y})\/∃x y,o.op=.assign x/\xb x=some y/\c.op=.mv y/\c.dst=o.dst/\Qu ops o.guard=some c.g/\o.dst.all (·<nt)=true
theorem Q1{nt}{ops}{ali}{o}{c}(h:ji P nt ops ali o=some c):Ho P nt ops ali o (Sq o c):=by
 unfold Sq;split
 ·split
  ·right
   grind [ji,Option.bind_eq_some_iff,Option.map_eq_some_iff]
  ·exact .inl h
 ·exact .inl h
theorem wZ{op}{y}(a:Nq P op=some (.loadA y)):False:=by
 unfold Nq at a;split at a<;>grind [Option.map_eq_some_iff,Option.bind_eq_some_iff]
theorem vZ{op}{y}(a:Hn P op=some (.loadA y)):False:=by
 unfold Hn at a;split at a<;>grind [Option.map_eq_some_iff,Option.bind_eq_some_iff]
theorem wA(A:Gb P Γ cf)(C:Good Γ S){ops}{ali}{o}{c}(j:Ho P S.nt ops ali o c)(hs:stepG cf st c=some st')(hr:Rl P S st a w){K}{Q}
 (u:∀a' w',Rl P S st' a' w'->K a' w'):if Region.wanted o (yielded ops a.tmps)then o.wpIn (fw r) 0 P a w K Q else(∀f,o.about P w a.eval=some f->(fw r).fn f)/\K (a.put o.dst undef) w:=by
 rcases j with j|⟨y,B,j⟩|⟨x,y,B,p,v,l,q,F⟩
 ·exact eI A C j hs hr u
 ·obtain⟨dst,E,op⟩:=c
  unfold ji at j;split at j
  case isFalse=>cases j
  obtain⟨D,p,j⟩:=qb j;obtain⟨g,v,j⟩:=qm j;simp only[Ta.mk.injEq]at j;obtain⟨rfl,rfl,rfl⟩:=j;obtain⟨b,z,hs⟩:=qb hs;rw[gz v z hr];have k:∀d,o.dst=some d->d<S.nt:=fun d h=>by grind
  cases b with
  |true=>
   unfold In at p;split at p
   ·grind [wy,Option.map_eq_some_iff,r_]
   ·exact absurd p (by
     split
     ·rename_i c' l
      intro e;cases e;rcases AD l with⟨x,t⟩|⟨x,t⟩|t
      ·rw[t]at l;obtain⟨_,_,q⟩:=qm l;cases q
      ·rw[t]at l;obtain⟨_,_,q⟩:=qm l;cases q
      ·cases t
     ·split
      ·grind [wZ]
      ·split
       ·grind [vZ]
       ·intro e;cases e)
  |false=>
   cases hs;obtain⟨Fr,β,R,n⟩:=hr;refine⟨fun _ _=>trivial,u _ _ ?_⟩;cases i:o.dst with
   |none=>exact⟨Fr,β,R,n⟩
   |some d=>exact⟨Fr,β,R.put (k d i) (by exact⟨[],rfl,rfl⟩),n⟩
 obtain⟨dst,g,op⟩:=c;subst v;subst l;obtain⟨b,z,hs⟩:=qb hs;rw[gz q z hr];have k:∀d,o.dst=some d->d<S.nt:=fun d h=>by grind
 obtain⟨Fr,β,R,n⟩:=hr;cases b with
 |true=>
  simp only[if_true,ma,bb,jd,Pb]at hs⊢;subst hs;have t:(execOp a.eval o).run P w=.ok (.value (a.eval x)) w:=by
   unfold execOp;rw[B];rfl
  refine Lh t (u _ _ ?_);cases i:o.dst with
  |none=>exact⟨Fr,β,R,n⟩
  |some d=>exact⟨Fr,β,R.put (k d i) (dc R.sl p),n⟩
 |false=>
  cases hs;refine⟨fun _ _=>trivial,u _ _ ?_⟩;cases i:o.dst with
  |none=>exact⟨Fr,β,R,n⟩
  |some d=>exact⟨Fr,β,R.put (k d i) (by exact⟨[],rfl,rfl⟩),n⟩
theorem tV(b:Gb P Γ cf)(i:Good Γ S){ops}{ali}{Q}{rest}:∀(l)(k)(st)(a)(w),
 (∀j c,l[j]?=some c->∃o,ops[k+j]?=some o/\ji P S.nt ops ali o=some c)->Hc cf l st=some st'->Rl P S st a w->(∀a' w',Rl P S st' a' w'->wpOpsIn (fw r) 0 P ops Q rest a' w')->wpOpsIn (fw r) 0 P ops Q (List.range' k l.length++rest) a w
 |[],k,st,a,w,_,h,hr,g=>by
  grind [Hc]
 |c::l,k,st,a,w,n,h,hr,g=>by
  obtain⟨s1,q,t⟩:=qb h;obtain⟨o,p,d⟩:=n 0 c rfl;rw[ci]at p;rw[sa,List.range'_succ,Fa];unfold wpOpsIn;simp only[p];exact eI b i d q hr fun a' w' e=>tV b i l (k+1) s1 a' w' (fun j c' u=>by
   have:=n (j+1) c' la;rwa[Ij,Vr 1 j]) t e g
end
def Ea.xs:Ea->List X
 | .mv x| .asg x| .Rp x| .Wl x| .un _ x| .conv _ x| .b2s x| .box _ _ x| .load _ _ x| .loadA x| .loadM x| .Vm _ x| .Wm _ _ _ x| .ext x _| .len x| .Vn x=>[x]
 | .mvA s=>[.t s]
 | .pick c a b=>[c,a,b]
 | .bin _ x y| .beq _ x y| .Qm _ _ x y| .store _ x y| .Ji _ x y| .jn _ _ x y| .Yj _ _ _ x y| .appendS x y| .idx x y| .append _ _ x y| .mm _ x y=>[x,y]
 | .alloc ..=>[]
 | .build _ ps| .mksl _ _ _ _ ps=>ps.map (·.2.2)
 | .slice _ x e d| .sliceP _ _ x e d| .sliceS x e d=>x::e.toList++d.toList
 | .call _ xs| .clos _ xs| .mkt _ xs=>xs
 | .calli _ x xs=>x::xs
 | .callv g xs=>g::xs
def X.fm:X->List Nat
 | .t s=>[s]
 | .c _=>[]
def Ta.reads(o:Ta):List Nat:=o.op.xs.flatMap X.fm++(match o.g with|some (s,_)=>[s]|none=>[])
def AA:Ea->Bool
 | .asg _| .loadM _| .alloc .. | .box .. | .store .. | .append .. | .appendS ..=>false
 |_=>true
def RI{c}{ρ ρ'}(h:∀x∈c.xs,ρ x=ρ' x):bb c ρ=bb c ρ':=by
 cases c
 case build zs ps=>
  have:(ps.map fun q=>(q.1,q.2.1,ρ q.2.2))=ps.map fun q=>(q.1,q.2.1,ρ' q.2.2):=zl fun q j=>by
   rw[h q.2.2 (zi.2 ⟨q,j,rfl⟩)]
  grind [bb]
 case clos f xs=>
  have:xs.map ρ=xs.map ρ':=zl fun q j=>h q j
  grind [bb]
 case mkt f xs=>
  have:xs.map ρ=xs.map ρ':=zl fun q j=>h q j
  grind [bb]
 case slice n x d b=>
  have a:ρ x=ρ' x:=h x (by simp[Ea.xs]);have e:d.map ρ=d.map ρ':=by cases d<;>simp;exact h _ (by simp[Ea.xs])
  have i:b.map ρ=b.map ρ':=by cases b<;>simp;exact h _ (by simp[Ea.xs])
  simp only[bb,a,e,i]
 case sliceP len n x d b=>
  have a:ρ x=ρ' x:=h x (by simp[Ea.xs]);have e:d.map ρ=d.map ρ':=by cases d<;>simp;exact h _ (by simp[Ea.xs])
  have i:b.map ρ=b.map ρ':=by cases b<;>simp;exact h _ (by simp[Ea.xs])
  grind [bb]
 case sliceS x d b=>
  have a:ρ x=ρ' x:=h x (by simp[Ea.xs]);have e:d.map ρ=d.map ρ':=by cases d<;>simp;exact h _ (by simp[Ea.xs])
  have i:b.map ρ=b.map ρ':=by cases b<;>simp;exact h _ (by simp[Ea.xs])
  grind [bb]
 all_goals first
  |rfl
  |(rename_i x y z;have a:=h x (by simp[Ea.xs]);have e:=h y (by simp[Ea.xs]);have i:=h z (by simp[Ea.xs]);simp only[bb,a,e,i];done)
  |(rename_i x y;have a:=h x (by simp[Ea.xs]);have e:=h y (by simp[Ea.xs]);simp only[bb,a,e];done)
  |(rename_i x;have a:=h x (by simp[Ea.xs]);simp only[bb,a];done)
  |(rename_i x _;have a:=h x (by simp[Ea.xs]);simp only[bb,a];done)
  |(rename_i g _ _ x;have a:=h x (by simp[Ea.xs]);cases g<;>simp only[bb,a];done)
  |skip
structure um where
 p:PV
 own:Bool
 al:Option Loc
 nb:Na
def cd(st:St)(d:Nat)(e:um):St:={sl:=(d,e.p)::st.sl,ow:=(if e.own then[.slot d]else[])++Va d st.ow,al:=(match e.al with|some L=>[(d,L)]|none=>[])++Lb d st.al,bx:=st.bx++e.nb}
def makes:Ea->Bool
 | .alloc .. | .box ..=>true
 |_=>false
theorem am(st)(d)(p):cd st d ⟨p,false,none,[]⟩=st.put d p:=by simp[cd,St.put]
theorem pI(st)(d)(p):cd st d ⟨p,true,none,[]⟩=st.Ic d p:=by simp[cd,St.Ic]
def gX{sl a}{x:X}(h:∀s∈x.fm,look sl s=look a s):x.ev sl=x.ev a:=by
 cases x with
 |t s=>exact h s (by simp[X.fm])
 |c v=>rfl
theorem nE{sl a}{c:Ea}(h:∀s∈c.xs.flatMap X.fm,look sl s=look a s):∀x∈c.xs,x.ev sl=x.ev a:=fun x b=>gX fun s hs=>h s (List.mem_flatMap.2 ⟨x,b,hs⟩)
def JS{a}{n}{p v}{bx}(z)(h:Ym a n p bx=some v):Ym a n p (bx++z)=some v:=by
 unfold Ym at h⊢
 grind [Option.bind_eq_some_iff,hD]
theorem zcJ{cf}{st st'}{o}{d}(hs:ce cf st o=some st')(A:AA o.op=true)(N:o.dst=some d):
 ∃e,st'=cd st d e/\e.nb=[]/\(∀s,e.al=some (.slot s)->s∈o.reads)/\∀a,(∀s∈o.reads,look a.sl s=look st.sl s)->(∃z,a.bx=st.bx++z)->ce cf a o=some (cd a d e):=by
 obtain⟨dst,g,c⟩:=o;subst N;obtain⟨b,O,v⟩:=qb hs;clear hs;have hs:=v;have H:∀a:St,(∀s∈(Ta.mk (some d) g c).reads,look a.sl s=look st.sl s)->fh a g=some b:=fun a h=>by
  grind [fh,Ta.reads]
 cases b with
 |false=>
  simp only[Ha,if_false,Pb]at hs;refine⟨⟨.Jc [],false,none,[]⟩,by rw[<-hs,am];rfl,rfl,(fun _ h=>by cases h),fun a h _=>?_⟩;unfold ce;simp only[H a h,Ja,Ha,if_false,am];rfl
 |true=>
  simp only[if_true]at hs;split at hs
  case isFalse=>cases hs
  rename_i i
  have fin:∀e:um,e.nb=[]->st'=cd st d e->(∀s,e.al=some (.slot s)->.t s∈c.xs)->(∀a:St,(∀x∈c.xs,x.ev a.sl=x.ev st.sl)->(∃z,a.bx=st.bx++z)->jb cf a.sl c=true/\ma cf a (some d) c=some (cd a d e))->
   ∃e:um,st'=cd st d e/\e.nb=[]/\(∀s,e.al=some (.slot s)->s∈(Ta.mk (some d) g c).reads)/\∀a:St,(∀s∈(Ta.mk (some d) g c).reads,look a.sl s=look st.sl s)->(∃z,a.bx=st.bx++z)->ce cf a ⟨some d,g,c⟩=some (cd a d e):=fun e l j w D=>by
   grind [Ta.reads,X.fm,nE,ce]
  have B:zj c=true->(∀sl,jb cf sl c=true)->∃e:um,st'=cd st d e/\e.nb=[]/\(∀s,e.al=some (.slot s)->s∈(Ta.mk (some d) g c).reads)/\∀a:St,(∀s∈(Ta.mk (some d) g c).reads,look a.sl s=look st.sl s)->(∃z,a.bx=st.bx++z)->ce cf a ⟨some d,g,c⟩=some (cd a d e):=fun K J=>by
   rw[so K]at hs;obtain⟨p,j,rfl⟩:=qm hs;refine fin ⟨p,false,none,[]⟩ rfl (by rw[am];rfl) (fun _ h=>by cases h) fun a h _=>⟨J _,?_⟩
   rw[so K,RI (ρ':=(·.ev st.sl)) h,j,am];rfl
  have r:∀(f:FuncId)(az:List X)(cs:List PV),yj cf f ((az.map fun x=>(x.ev st.sl).ib)++cs)=true->Tc cf st (some d) f ((az.map fun x=>(x.ev st.sl).ib)++cs)=some st'->
   (∀a:St,(∀x∈c.xs,x.ev a.sl=x.ev st.sl)->jb cf a.sl c=jb cf st.sl c/\ma cf a (some d) c=Tc cf a (some d) f ((az.map fun x=>(x.ev st.sl).ib)++cs))->
   ∃e:um,st'=cd st d e/\e.nb=[]/\(∀s,e.al=some (.slot s)->s∈(Ta.mk (some d) g c).reads)/\∀a:St,(∀s∈(Ta.mk (some d) g c).reads,look a.sl s=look st.sl s)->(∃z,a.bx=st.bx++z)->ce cf a ⟨some d,g,c⟩=some (cd a d e):=fun f az cs w l L=>by
   unfold yj at w;simp only[cc]at w;obtain⟨I,w⟩:=w;unfold Tc at l;rw[if_pos I]at l;obtain⟨⟨C,os,bx',oc'⟩,P,Q⟩:=qb l;have e1:∀s:St,(if os then s.Ic d (Rc C)else s.put d (Rc C))=cd s d ⟨Rc C,os,none,[]⟩:=fun s=>by
    grind [am,pI]
   grind [Tc]
  cases c
  case mvA l=>
   obtain⟨w,C⟩:l≠d/\st'={(st.put d (look st.sl l))with al:=(d,.slot l)::Lb d st.al}:=by
    simp only[ma,Ja]at hs
    grind
   refine fin ⟨look st.sl l,false,some (.slot l),[]⟩ rfl (by grind [cd,St.put]) (fun s h=>by grind [Ea.xs]) fun a h _=>⟨rfl,?_⟩
   have j:look a.sl l=look st.sl l:=h (.t l) (by simp[Ea.xs]);simp only[ma,Ja,if_neg w,j];simp[cd,St.put]
  case mksl w n size zs ps=>
   obtain⟨cs,j,v⟩:=qb hs;split at v
   case isFalse=>cases v
   rename_i l;cases v;refine fin ⟨.ga n (Dd cs),true,none,[]⟩ rfl (by rw[pI]) (fun _ h=>by cases h) fun a h _=>⟨rfl,?_⟩
   have:(ps.map fun q=>(q.1,q.2.1,q.2.2.ev a.sl))=ps.map fun q=>(q.1,q.2.1,q.2.2.ev st.sl):=zl fun q F=>by
    rw[h q.2.2 (zi.2 ⟨q,F,rfl⟩)]
   simp only[ma,Ja,this,j,if_pos l,pI]
  case b2s x=>
   obtain⟨p,j,rfl⟩:=qm hs;refine fin ⟨p,false,none,[]⟩ rfl (by rw[am];rfl) (fun _ h=>by cases h) fun a h u=>⟨rfl,?_⟩
   obtain⟨z,E⟩:=u;have D:Dm (x.ev st.sl) (st.bx++z)=some p:=by
    unfold Dm at j⊢;split at j
    ·exact j
    ·exact j
    ·obtain⟨q,G,l⟩:=qb j
     rw[hD G];exact l
    ·cases j
   simp only[ma,h x (by simp[Ea.xs]),E,D,jd,am];rfl
  case load l n x=>
   obtain⟨p,j,rfl⟩:=qm hs;refine fin ⟨p,false,none,[]⟩ rfl (by rw[am]) (fun _ h=>by cases h) fun a h u=>⟨rfl,?_⟩
   obtain⟨z,E⟩:=u;simp only[ma,Ja,h x (by simp[Ea.xs]),E,JS z j,jd,am]
  case loadA x=>
   simp only[ma,Ja]at hs;split at hs
   ·rename_i b o e1
    obtain⟨p,j,rfl⟩:=qm hs;refine fin ⟨p,false,some (.cell b o),[]⟩ rfl (by simp[cd,St.put]) (fun _ h=>by cases h) fun a h u=>⟨rfl,?_⟩
    obtain⟨z,E⟩:=u;have l:((vd (st.bx++z) b).bind fun q=>q.2[o]?)=some p:=by
     obtain⟨cs,D,G⟩:=qb j;rw[hD D];exact G
    simp only[ma,Ja,h x (by simp[Ea.xs]),E,e1,l,jd];simp[cd,St.put]
   grind
  case call f args=>
   simp only[ma]at hs;simp only[jb]at i;refine r f args [] la (by simpa using hs) fun a h=>?_
   have:(args.map fun x=>(x.ev a.sl).ib)=args.map fun x=>(x.ev st.sl).ib:=zl fun q F=>by rw[h q F]
   simp only[jb,ma,this,ph,and_self]
  case callv C args=>
   simp only[ma]at hs;simp only[jb]at i;split at hs
   ·rename_i f Ya e1
    rw[e1]at i;split at hs
    ·cases hs
    rename_i w;have l:yj cf f ((args.map fun x=>(x.ev st.sl).ib)++Ya)=true:=by simp only[cc]at i;exact i.2
    refine r f args Ya l hs fun a h=>?_
    have j:(args.map fun x=>(x.ev a.sl).ib)=args.map fun x=>(x.ev st.sl).ib:=zl fun q F=>by grind [Ea.xs]
    have D:C.ev a.sl=.cb f Ya:=(h C (by simp[Ea.xs])).trans e1;simp only[jb,ma,j,D,e1,if_neg w,and_self]
   ·rename_i k Ya e1
    rw[e1]at i;cases i
   ·grind
   ·cases hs
  case asg x=>cases A
  case calli t x az=>cases i
  case loadM x=>cases A
  case alloc M zs=>cases A
  case box M n x=>cases A
  case store n x y=>cases A
  case append n x y=>cases A
  case appendS x y=>cases A
  all_goals exact B rfl fun _=>rfl
def gA{ps}(h:Xl ps=true)(b o):gd b o ps=[]:=by
 induction ps generalizing o<;>grind [Xl,gd]
def hA{ps}(h:Xl ps=true):ps.map wk=ps:=by
 induction ps<;>grind [Xl,GJ]
theorem E_{cf}{st st'}{o}{d}(hs:ce cf st o=some st')(t:makes o.op=true)(r:o.dst=some d):
 ∃e,st'=cd st d e/\(∀s,e.al=some (.slot s)->s∈o.reads)/\∀i,(∀s∈o.reads,look i.sl s=look st.sl s)->i.bx=st.bx->ce cf i o=some (cd i d e):=by
 obtain⟨dst,g,c⟩:=o;subst r;obtain⟨b,v,p⟩:=qb hs;clear hs;have hs:=p;have k:∀i:St,(∀s∈(Ta.mk (some d) g c).reads,look i.sl s=look st.sl s)->fh i g=some b:=fun i h=>by
  grind [fh,Ta.reads]
 cases b with
 |false=>
  simp only[Ha,if_false,Pb]at hs;refine⟨⟨.Jc [],false,none,[]⟩,by rw[<-hs,am];rfl,(fun _ h=>by cases h),fun i h _=>?_⟩;unfold ce;simp only[k i h,Ja,Ha,if_false,am];rfl
 |true=>
  simp only[if_true]at hs;split at hs
  case isFalse=>cases hs
  rename_i a;cases c
  case alloc l zs=>
   simp only[jb]at a;simp only[ma,jd,Pb,gA a,hA a,Ma]at hs;refine⟨⟨.ptr st.bx.length 0,false,none,[(l,zs)]⟩,by grind [cd,St.put],(fun _ h=>by cases h),fun i h j=>?_⟩;unfold ce;simp only[k i h,Ja,if_true,jb,a,ma,jd,j,gA a,hA a,Ma]
   grind [cd,St.put]
  case box l n x=>
   simp only[jb]at a;simp only[ma,Ja,gA a,hA a,Ma]at hs;split at hs
   case isFalse=>cases hs
   rename_i q;cases hs;refine⟨⟨.ptr st.bx.length 0,false,none,[(l,(x.ev st.sl).cells)]⟩,pa,(fun _ h=>by cases h),fun i h j=>?_⟩;have u:x.ev i.sl=x.ev st.sl:=nE (c:=.box l n x) (fun s hs=>h s (by grind [Ta.reads])) x (by simp[Ea.xs]);unfold ce;simp only[k i h,Ja,if_true,jb,a,ma,u,if_pos q,j,gA a,hA a,Ma]
   grind [cd,St.put]
  all_goals cases t
def eh(ops:Array Oper)(i:Nat):List Nat:=match ops[i]? with
 |some o=>o.after.toList.filterMap fun e=>if Region.binds .any e then some e.on else none
 |none=>[]
def Rx:List (List Nat)->List (List Nat)->List (List Nat)
 |acc,[]=>acc
 |acc,a::r=>Rx (acc++[(a.flatMap fun j=>j::acc.getD j []).eraseDups]) r
def Gl(ops:Array Oper):List (List Nat):=Rx [] ((List.range ops.size).map (eh ops))
def Py(ops:Array Oper)(cs:List Ta)(k:Nat):Bool:=
 let a:=Gl ops
 decide (k<=cs.length)&&
 (List.range ops.size).all (fun i=>(eh ops i).all (·<i))&&
 (List.range k).all (fun i=>match cs[i]? with
   |some o=>(AA o.op||(i+1==k&&makes o.op))&&o.dst.isSome
   |none=>true)&&
 (List.range k).all (fun i=>(List.range k).all fun j=>i==j||((cs[i]?).bind (·.dst)) !=((cs[j]?).bind (·.dst)))&&
 (List.range k).all (fun i=>match cs[i]? with
   |some o=>o.reads.all fun s=>(List.range k).all fun j=>((cs[j]?).bind (·.dst)) !=some s||(decide (j<i)&&(a.getD i []).contains j)
   |none=>true)&&
 (List.range cs.length).all (fun i=>decide (i<k)||(List.range i).all fun j=>(a.getD i []).contains j)
theorem kK{dir}{E:Nat->Prop}(p:∀i,E i->∀j∈dir.getD i [],E j):∀(r a done),dir=done++r->a.length=done.length->
 (∀i,(∀j∈done.getD i [],E j)->∀x∈a.getD i [],E x)->∀i,(∀j∈dir.getD i [],E j)->∀x∈(Rx a r).getD i [],E x
 |[],a,done,w,g,h,i,q,x,t=>by
  grind [Rx]
 |v::r,a,done,w,g,h,i,q,x,t=>by
  refine kK p r _ (done++[v]) la (by simp[g]) (fun o b u c=>?_) i q x t;by_cases fa:o<a.length
  ·exact h o la u la
  ·by_cases z:o=a.length
   ·subst z
    rw[qB,Af (Aa _)]at c;rw[qB,g,Af (Aa _)]at b;simp only[Nat.sub_self,Bo,Option.getD_some]at c b;have k:=List.mem_eraseDups.1 c;obtain⟨j,A,l⟩:=List.mem_flatMap.1 k;have d:=b j A;rcases wb.1 l with e|n
    ·grind
    ·refine h j (fun y B=>p j d y ?_) u n
     grind
   grind
def ZB{ops}{E:Nat->Prop}(b:∀i,E i->∀j∈eh ops i,E j){i}(c:i<ops.size)(h:∀j∈eh ops i,E j):∀x∈(Gl ops).getD i [],E x:=by
 refine kK (dir:=(List.range ops.size).map (eh ops)) (fun g a j d=>?_) _ [] [] rfl rfl (fun i _ x e=>by grind) i la
 grind
section
variable {P:Program} {w w':World} {r:Option Nat} {Fr Fr':Nat→Nat} {β β':List Nat} {T:List Deferred} {base nt:Nat} {M:Nat→Prop} {w0:World} {F0:Nat→Nat} {st st':St} {a a':Act} {cf:Callee} {Γ:ue} {S:S0}
def Rl.congr(h:Rl P S st a w)(k:∀i,look st'.sl i=look st.sl i)(b:∀L,L∈st'.ow->L∈st.ow)(l:∀q,q∈st'.al->q∈st.al)(n:st'.bx=st.bx):Rl P S st' a w:=by
 obtain⟨Fr,β,R,p⟩:=h;have e:∀L,ab st' L=ab st L:=fun L=>by cases L<;>simp only[ab,k,n]
 exact⟨Fr,β,⟨fun i=>by rw[k];exact R.sl i,R.nt,R.df,by grind [Rel.bx],R.nd,fun L c=>by rw[e];exact R.own L (b L c),fun L c j d=>R.sep L (b L c) j (b j d),fun L c=>R.out L (b L c),fun q r=>R.al q (l q r),
  fun g o=>R.may g (o.imp id fun⟨L,t,u⟩=>⟨L,b L t,u⟩),R.old,R.ge,R.os,R.tape,R.output⟩,p⟩
structure Sat (k:Nat) (d:Nat→Nat) (eff:Nat→um) (E:Nat→Prop) (st0 st:St):Prop where
 e1:∀ i,i<k→E i→look st.sl (d i)=(eff i).p
 e2:∀ s,(∀ i,i<k→E i→d i≠s)→look st.sl s=look st0.sl s
 e3:∀ L,L∈st.ow ↔ (∃ i,i<k∧E i∧(eff i).own=true∧L=.slot (d i))∨(L∈st0.ow∧∀ i,i<k→E i→Xd (d i) L=false)
 e4:∀ q,q∈st.al ↔ ∃ i,i<k∧E i∧(eff i).al=some q.2∧q.1=d i
 e5:(∀ i,i<k→E i→(eff i).nb=[])→st.bx=st0.bx
 e6:∀ i,i<k→E i→(eff i).nb≠[]→st.bx=st0.bx++(eff i).nb
def Sat.start{k}{d}{eff}{a}(h:a.al=[]):Sat k d eff (fun _=>False) a a:=
 ⟨fun _ _ h=>h.elim,fun _ _=>rfl,fun L=>⟨fun h=>.inr ⟨h,fun _ _ h=>h.elim⟩,fun h=>h.elim (fun⟨_,_,h,_⟩=>h.elim) (·.1)⟩,fun q=>by grind,fun _=>rfl,fun _ _ h=>h.elim⟩
def Sat.step{k}{d}{eff}{E}{t st}(h:Sat k d eff E t st)(z:∀i j,i<k->j<k->i≠j->d i≠d j){i}(w:i<k)(A:¬E i)
 (B:∀j,j<k->(eff j).nb≠[]->j+1=k) (v:∀j,j<k->E j->∀L,(eff j).al=some L->Xd (d i) L=false):Sat k d eff (fun j=>E j\/j=i) t (cd st (d i) (eff i)):=by
 have x:∀j,j<k->E j->d j≠d i:=fun j c a=>z j i c w fun e=>A (e▸a)
 refine⟨fun j c a=>?_,fun s hs=>?_,fun L=>?_,fun q=>?_,fun o=>?_,fun j c a p=>?_⟩
 rotate_left 4
 ·have u:=h.e5 fun j c a=>o j c (.inl a)
  grind [cd]
 ·rcases a with a|rfl
  ·have u:(eff i).nb=[]:=gu fun y=>by
    grind
   simp only[cd,u,ph];exact h.e6 j c a p
  ·have u:=h.e5 fun m l a=>gu fun y=>by
    grind
   grind [cd]
 ·simp only[cd,me]
  rcases a with a|rfl
  ·rw[if_neg (Wf (x j c a))];exact h.e1 j c a
  simp
 ·simp only[cd,me]
  rw[if_neg (hs i w (.inr rfl))];exact h.e2 s fun j c a=>hs j c (.inl a)
 ·simp only[cd,We,Ul]
  constructor
  ·rintro(l|⟨l,C⟩)
   ·grind
   ·rcases(h.e3 L).1 l with⟨j,g,b,n,r⟩|⟨g,b⟩<;>grind
  ·rintro(⟨j,g,b,n,r⟩|⟨g,b⟩)
   ·rcases b with b|rfl
    ·right
     refine⟨(h.e3 L).2 (.inl ⟨j,g,b,n,r⟩),?_⟩
     grind [Xd]
    grind
   ·exact .inr ⟨(h.e3 L).2 (.inr ⟨g,fun j c a=>b j c (.inl a)⟩),b i w (.inr rfl)⟩
 ·simp only[cd,We,Ar]
  constructor
  ·rintro(l|⟨l,C,y⟩)
   ·grind
   ·obtain⟨j,g,b,n,r⟩:=(h.e4 q).1 l
    grind
  ·rintro⟨j,g,b,n,r⟩
   rcases b with b|rfl
   ·exact .inr ⟨(h.e4 q).2 ⟨j,g,b,n,r⟩,la,v j g b _ n⟩
   grind
theorem FU:∀(l)(st stk),tg cf l st=some stk->(∀(i)(o),l[i]?=some o->(AA o.op=true\/(i+1=l.length/\makes o.op=true))/\o.dst.isSome=true)->
 ∃(c:List um)(b:List St),c.length=l.length/\b[0]?=some st/\b[l.length]?=some stk/\∀i o,l[i]?=some o->∃e s d,c[i]?=some e/\b[i]?=some s/\o.dst=some d/\b[i+1]?=some (cd s d e)/\(∀x,e.al=some (.slot x)->x∈o.reads)/\(e.nb≠[]->i+1=l.length)/\
  ∀a,(∀x∈o.reads,look a.sl x=look s.sl x)->(∃z,a.bx=s.bx++z)->(i+1=l.length->a.bx=s.bx)->ce cf a o=some (cd a d e)
 |[],st,stk,h,_=>by
  simp only[tg,Pb]at h;subst h;exact⟨[],[st],rfl,rfl,rfl,fun i o q=>by grind⟩
 |o::l,st,stk,h,j=>by
  obtain⟨s1,w,n⟩:=qb h;obtain⟨r,g⟩:=j 0 o ea;obtain⟨d,B⟩:=vB.1 g;obtain⟨e,e1,y,p,A⟩:∃e:um,s1=cd st d e/\(∀x,e.al=some (.slot x)->x∈o.reads)/\(e.nb≠[]->0+1=(o::l).length)/\∀a:St,(∀x∈o.reads,look a.sl x=look st.sl x)->(∃z,a.bx=st.bx++z)->(0+1=(o::l).length->a.bx=st.bx)->ce cf a o=some (cd a d e):=by
   grind [zcJ,E_]
  obtain⟨c,b,u,C,v,D⟩:=FU l _ stk n fun i k t=>by
   obtain⟨E,F⟩:=j (i+1) k la
   grind
  refine⟨e::c,st::b,by simp[u],rfl,by simpa using v,fun i k q=>?_⟩;cases i with
  |zero=>
   simp_all
  |succ i=>
   simp_all
def zfF{o}(h:ce cf st o=some st'):stepG cf st o=some st':=by
 grind [ce,Option.bind_eq_some_iff,stepG]
def wx{ops}{Q}{K}{i}{o}(b:ops[i]?=some o)(h:if Region.wanted o (yielded ops a.tmps)then o.wpIn (fw r) 0 P a w K Q else(∀f,o.about P w a.eval=some f->(fw r).fn f)/\K (a.put o.dst undef) w):wpOpIn (fw r) 0 P ops Q i K a w:=by
 grind [wpOpIn]
theorem K2(hcf:Gb P Γ cf)(hSZ:Good Γ S){ops}{ali}{cs}{k}{Q}{C stk stF}(hok:Py ops cs k=true)(hlen:cs.length=ops.size)
 (hco:∀(j:Nat)(c),cs[j]?=some c->∃o,ops[j]?=some o/\Ho P S.nt ops ali o c) (hal:C.al=[]) (hpre:tg cf (cs.take k) C=some stk) (D:Hc cf (cs.drop k) stk=some stF) (hr:Rl P S C a w)
 (hKZ:∀a' w',Rl P S stF a' w'->Q .normal a' w'):wpAnyIn (fw r) 0 P .any ops Q ops.size (Array.replicate ops.size false) a w:=by
 unfold Py at hok;simp only[cc,decide_eq_true_eq,Ag,Zi,mq,bne_iff_ne,ne_eq,beq_iff_eq]at hok;obtain⟨⟨⟨⟨⟨hkZ,hback⟩,hkind⟩,hdist⟩,hreads⟩,htl⟩:=hok;have hkl:(cs.take k).length=k:=by rw[Ue];omega
 have K:∀(i:Nat)(o:Ta),(cs.take k)[i]?=some o->(AA o.op=true\/(i+1=(cs.take k).length/\makes o.op=true))/\o.dst.isSome=true:=fun i o y=>by
  grind
 obtain⟨esZ,ssZ,hel,hs0,hsk,hss⟩:=FU (cf:=cf) (cs.take k) C stk hpre K;rw[hkl]at hel hsk hss;obtain⟨d,hdZ⟩:∃d:Nat->Nat,∀(i:Nat)(c:Ta),i<k->cs[i]?=some c->c.dst=some (d i):=by
  refine⟨fun i=>((cs[i]?).bind (·.dst)).getD 0,fun i c y hcZ=>?_⟩;have t:=(K i c (show(cs.take k)[i]?=some c by grind)).2;obtain⟨x,M⟩:=vB.1 t;simp[hcZ,M]
 obtain⟨eff,heff⟩:∃eff:Nat->um,∀(i:Nat)(e:um),esZ[i]?=some e->eff i=e:=⟨fun i=>(esZ[i]?).getD ⟨.Ad,false,none,[]⟩,fun i e h=>by simp[h]⟩;have hcs:∀i:Nat,i<k->∃c,cs[i]?=some c:=fun i y=>⟨_,qe aa⟩
 have hdd:∀i j,i<k->j<k->i≠j->d i≠d j:=fun i j y p hne e=>by
  grind
 have hrd:∀(i:Nat)(c:Ta),i<k->cs[i]?=some c->∀s∈c.reads,∀j,j<k->d j=s->j<i/\j∈(Gl ops).getD i []:=fun i c y hcZ s hs j p hdj=>by
  grind
 have Z:∀i:Nat,i<k->∃c s,cs[i]?=some c/\ssZ[i]?=some s/\ssZ[i+1]?=some (cd s (d i) (eff i))/\(∀x,(eff i).al=some (.slot x)->x∈c.reads)/\((eff i).nb≠[]->i+1=k)/\
  ∀J:St,(∀x∈c.reads,look J.sl x=look s.sl x)->(∃z,J.bx=s.bx++z)->(i+1=k->J.bx=s.bx)->ce cf J c=some (cd J (d i) (eff i)):=fun i y=>by
  obtain⟨c,hcZ⟩:=hcs i y;obtain⟨e,s,N,q1Z,q2Z,R,U,V,W,X⟩:=hss i c (by rw[lx y];exact hcZ);have t:=hdZ i c y hcZ;simp_all
 have hnb:∀j,j<k->(eff j).nb≠[]->j+1=k:=fun j p h=>by
  obtain⟨_,_,_,_,_,_,h6Z,_⟩:=Z j p;exact h6Z h
 have halx:∀i,i<k->∀j,j<k->∀E:Nat->Prop,¬E i->E j->(∀x∈(Gl ops).getD j [],E x)->∀L,(eff j).al=some L->Xd (d i) L=false:=fun i y j p E hnZ hEZ hcl L hLZ=>by
  cases L with
  |cell b o=>rfl
  |slot x=>
   simp only[Xd,beq_eq_false_iff_ne,ne_eq];intro e;obtain⟨c,s,hcZ,_,_,h5Z,_,_⟩:=Z j p;exact hnZ (hcl i (hrd j c p hcZ x (h5Z x hLZ) i y e.symm).2)
 have hsat:∀i:Nat,i<=k->∃s,ssZ[i]?=some s/\Sat k d eff (fun j=>j<i) C s:=fun i=>by
  induction i with
  |zero=>exact fun _=>⟨C,hs0,by have:=Sat.start (k:=k) (d:=d) (eff:=eff) hal;simpa using this⟩
  |succ i ihZ=>
   intro y;obtain⟨s,t,v⟩:=ihZ aa;obtain⟨c,s',hcZ,B,O,h5Z,_,_⟩:=Z i y;rw[t]at B;cases B;refine⟨_,O,?_⟩;have:=v.step hdd (i:=i) y aa hnb fun j p hEZ L hLZ=>by
    cases L with
    |cell b o=>rfl
    |slot x=>
     simp only[Xd,beq_eq_false_iff_ne,ne_eq];intro e;obtain⟨c',N,J,_,_,h6Z,_,_⟩:=Z j p;have:=(hrd j c' p J x (h6Z x hLZ) i y e.symm).1;omega
   have e:(fun j=>j<i\/j=i)=fun j=>j<i+1:=by funext j;apply propext;omega
   rw[e]at this;omega
 have A:Sat k d eff (fun j=>j<k) C stk:=by
  obtain⟨s,t,v⟩:=hsat k (Aa _);rw[hsk]at t;cases t;exact v
 have htails:∀m,k<=m->m<=ops.size->∃s,Hc cf ((cs.drop k).take (m - k)) stk=some s/\Hc cf (cs.drop m) s=some stF:=by
  have split:∀(l:List Ta)(n:Nat)(s:St),Hc cf l s=some stF->∃s',Hc cf (l.take n) s=some s'/\Hc cf (l.drop n) s'=some stF:=by
   intro l
   induction l with
   |nil=>intro n s h;exact⟨s,by simp[Hc],by simpa using h⟩
   |cons o l ihZ=>
    intro n s h;cases n with
    |zero=>exact⟨s,rfl,h⟩
    |succ n=>
     obtain⟨s1,t,v⟩:=qb h;obtain⟨s',B,O⟩:=ihZ n s1 v;exact⟨s',by simp only[dx,Hc,t,Ja];exact B,O⟩
  intro m hmZ hm2;obtain⟨s,t,v⟩:=split (cs.drop k) (m - k) stk D;refine⟨s,t,?_⟩;rw[Cd]at v;rwa[show k+(m - k)=m by omega]at v
 have F:∀(l l':List Ta)(s:St),Hc cf (l++l') s=(Hc cf l s).bind (Hc cf l'):=by
  intro l
  induction l with
  |nil=>intro l' s;rfl
  |cons o l ihZ=>
   intro l' s;simp only[Fa,Hc];cases stepG cf s o with
   |none=>rfl
   |some s1=>exact ihZ l' s1
 have T:∀m,k<=m->m<ops.size->∀s,Hc cf ((cs.drop k).take (m - k)) stk=some s->∃c s',cs[m]?=some c/\stepG cf s c=some s'/\Hc cf ((cs.drop k).take (m+1 - k)) stk=some s':=fun m hmZ hm2 s hs=>by
  obtain⟨N,t,v⟩:=htails m hmZ aa;rw[hs]at t;cases t;have J:m<cs.length:=aa
  rw[Qd J]at v;obtain⟨s',B,O⟩:=qb v;refine⟨cs[m],s',qe J,B,?_⟩;have:(cs.drop k).take (m+1 - k)=(cs.drop k).take (m - k)++[cs[m]]:=by
   rw[show m+1 - k=(m - k)+1 by omega,xo (by rw[fc];omega)];congr 2;rw[List.getElem_drop];congr 1;omega
  rw[this,F,hs];simp only[Ja,Hc,B]
 have I:∀(g:Array Bool)(i j:Nat),i<g.size->((g.setIfInBounds i true).getD j false=true ↔ (g.getD j false=true\/j=i)):=fun g i j y=>by
  by_cases h:i=j
  ·subst h;simp[y]
  ·rw[getD_set_ne false h]
   exact⟨.inl,fun h'Z=>h'Z.resolve_right (Wf h)⟩
 have full:∀(E:Nat->Prop)(s:St)(a:Act)(w:World),Sat k d eff E C s->(∀i,i<k->E i)->Rl P S s a w->Rl P S stk a w:=fun E s a w hs hEZ hr=>by
  refine hr.congr (fun x=>?_) (fun L hLZ=>?_) (fun q J=>?_) ?_
  ·by_cases M:∃j,j<k/\d j=x
   ·obtain⟨j,p,rfl⟩:=M
    rw[A.e1 j p p,hs.e1 j p (hEZ j p)]
   ·have H:∀j,j<k->d j≠x:=fun j p e=>M ⟨j,p,e⟩
    rw[A.e2 x fun j p _=>H j p,hs.e2 x fun j p _=>H j p]
  ·refine(hs.e3 L).2 (((A.e3 L).1 hLZ).imp ?_ ?_)
   ·rintro⟨i,t,v,B,O⟩;exact⟨i,t,hEZ i t,B,O⟩
   ·rintro⟨t,v⟩;exact⟨t,fun i y _=>v i y y⟩
  ·obtain⟨i,t,v,B,O⟩:=(A.e4 q).1 J
   exact(hs.e4 q).2 ⟨i,t,hEZ i t,B,O⟩
  ·by_cases M:∃j,j<k/\(eff j).nb≠[]
   ·obtain⟨j,p,G⟩:=M
    rw[A.e6 j p p G,hs.e6 j p (hEZ j p) G]
   ·have H:∀j,j<k->(eff j).nb=[]:=fun j p=>gu fun h=>M ⟨j,p,h⟩
    rw[A.e5 fun j p _=>H j p,hs.e5 fun j p _=>H j p]
 have fin:∀(g:Array Bool)(a:Act)(w:World),(∀i,i<ops.size->g.getD i false=true)->
  ((∃s,Sat k d eff (fun j=>g.getD j false=true) C s/\Rl P S s a w/\∀i,k<=i->¬g.getD i false=true)\/
    (∃m s,k<=m/\m<=ops.size/\(∀i,i<ops.size->(g.getD i false=true ↔ i<m))/\Hc cf ((cs.drop k).take (m - k)) stk=some s/\Rl P S s a w))->Q .normal a w:=fun g a w u h=>by
  rcases h with⟨s,t,v,B⟩|⟨m,s,t,v,B,O,h5Z⟩
  ·have J:ops.size<=k:=by
    rcases Oh k ops.size with h|h
    ·exact absurd (u k h) (B k (Aa _))
    ·exact h
   have h6Z:=full _ s a w t (fun i y=>u i aa) v;have:cs.drop k=[]:=Ak.2 aa;rw[this]at D;simp only[Hc,Pb]at D;subst D;exact hKZ a w h6Z
  ·have hmn:m=ops.size:=by
    rcases Oh m ops.size with h|h
    ·have:=(B m h).1 (u m h);omega
    ·omega
   rw[xk (by rw[fc];omega),D]at O;cases O;exact hKZ a w h5Z
 have main:∀(fuel:Nat)(g:Array Bool)(a:Act)(w:World),g.size=ops.size->((List.range ops.size).filter fun i=>!g.getD i false).length<=fuel->
  (∀i,i<ops.size->g.getD i false=true->∀j∈eh ops i,g.getD j false=true)->
  ((∃s,Sat k d eff (fun j=>g.getD j false=true) C s/\Rl P S s a w/\∀i,k<=i->¬g.getD i false=true)\/
    (∃m s,k<=m/\m<=ops.size/\(∀i,i<ops.size->(g.getD i false=true ↔ i<m))/\Hc cf ((cs.drop k).take (m - k)) stk=some s/\Rl P S s a w))->
  wpAnyIn (fw r) 0 P .any ops Q fuel g a w:=by
  intro fuel;have rdy:∀(g:Array Bool)(i:Nat),g.size=ops.size->(i∈Region.ready .any ops g ↔ i<ops.size/\¬g.getD i false=true/\∀j∈eh ops i,g.getD j false=true):=fun g i hzZ=>by
   rw[mem_ready];constructor
   ·rintro⟨t,o,hoZ,v⟩
    have y:=(Nh.1 hoZ).1;refine⟨y,?_,fun j p=>?_⟩
    ·rw[yo,hu aa]at t⊢
     simp at t⊢;exact t
    ·unfold eh at p
     rw[hoZ]at p;obtain⟨e,N,G⟩:=gx.1 p;split at G
     ·rename_i J;cases G;exact v e (by simpa using N) J
     ·cases G
   grind [eh]
  have stuck:∀g:Array Bool,g.size=ops.size->Region.ready .any ops g=[]->∀i,i<ops.size->g.getD i false=true:=fun g hzZ hrd i=>by
   induction i using Nat.strongRecOn<;>grind
  induction fuel with
  |zero=>
   intro g a w hzZ hcZ _ hph;have u:∀i,i<ops.size->g.getD i false=true:=fun i y=>by
    simp_all
   refine⟨?_,fin g a w u hph⟩;cases hrl:Region.ready .any ops g with
   |nil=>rfl
   |cons i r=>
    have:=(rdy g i hzZ).1 (by rw[hrl];simp);exact absurd (u i this.1) this.2.1
  |succ fuel ihZ=>
   intro g a w hzZ hcZ hcl hph;refine⟨fun h=>fin g a w (stuck g hzZ h) hph,fun i y=>?_⟩;obtain⟨X,R,hdir⟩:=(rdy g i hzZ).1 y;have V:∀i,g.getD i false=true->∀j∈eh ops i,g.getD j false=true:=fun i'Z h=>by
    grind
   have U:∀x∈(Gl ops).getD i [],g.getD x false=true:=ZB V X hdir;have hz2:(g.setIfInBounds i true).size=ops.size:=by simp[hzZ]
   have hcnt:((List.range ops.size).filter fun j=>!(g.setIfInBounds i true).getD j false).length<=fuel:=by
    have e1:((List.range ops.size).filter fun j=>!(g.setIfInBounds i true).getD j false)=((List.range ops.size).filter fun j=>!g.getD j false).filter (· !=i):=by
     rw[om];apply Co;intro j _;have:=I g i j aa;by_cases hji:j=i
     ·subst hji
      have t:(g.setIfInBounds j true).getD j false=true:=this.2 (.inr rfl);rw[t];simp
     ·rw[getD_set_ne false (Wf hji)];simp[hji]
    have J:i∈(List.range ops.size).filter fun j=>!g.getD j false:=Yc.2 ⟨Zi.2 X,by simpa using R⟩
    rw[e1];have:=DJ.2 (show∃x∈(List.range ops.size).filter (fun j=>!g.getD j false),¬((x !=i)=true)from⟨i,J,ea⟩);omega
   have hcl2:∀i'Z,i'Z<ops.size->(g.setIfInBounds i true).getD i'Z false=true->∀j∈eh ops i'Z,(g.setIfInBounds i true).getD j false=true:=fun i'Z hi' h j p=>by
    rw[I g i _ aa]at h⊢;rcases h with h|rfl
    ·exact .inl (hcl i'Z hi' h j p)
    ·exact .inl (hdir j p)
   have N:∀m s,k<=m->m<ops.size->(∀i,i<ops.size->(g.getD i false=true ↔ i<m))->Hc cf ((cs.drop k).take (m - k)) stk=some s->Rl P S s a w->wpOpIn (fw r) 0 P ops Q i (wpAnyIn (fw r) 0 P .any ops Q fuel (g.setIfInBounds i true)) a w:=fun m s hmZ hm2 hlZ hev hrl=>by
    have J:i=m:=by
     have t:¬i<m:=fun h=>R ((hlZ i X).2 h)
     rcases htl i aa with h|h
     ·omega
     ·rcases Oh m i with v|v
      ·have B:=U m (by simpa using h m v)
       have:=(hlZ m hm2).1 B;omega
      ·omega
    subst J;obtain⟨c,s',t,v,B⟩:=T i hmZ hm2 s hev;obtain⟨o,hoZ,W⟩:=hco i c t;refine wx hoZ (wA hcf hSZ W v hrl fun a' w' hr'=>ihZ _ a' w' hz2 hcnt hcl2 (.inr ⟨i+1,s',aa,aa,fun j p=>?_,B,hr'⟩));rw[I g i j aa,hlZ j p];omega
   rcases hph with⟨s,t,v,B⟩|⟨m,s,t,v,B,O,h5Z⟩
   ·by_cases hik:i<k
    ·obtain⟨c,siZ,hc1,hsi,_,M,_,hloc⟩:=Z i hik
     obtain⟨o,hoZ,W⟩:=hco i c hc1;obtain⟨si',hsi',J⟩:=hsat i aa;rw[hsi]at hsi';cases hsi';have hsib:siZ.bx=C.bx:=J.e5 fun j p hji=>gu fun h=>by
      have:=hnb j p h;omega
     have hstep:=hloc s (fun x hxr=>by
      by_cases M:∃j,j<k/\d j=x
      ·obtain⟨j,p,rfl⟩:=M
       obtain⟨q1Z,q2Z⟩:=hrd i c hik hc1 _ hxr j p rfl;rw[t.e1 j p (U j q2Z),J.e1 j p q1Z]
      ·have H:∀j,j<k->d j≠x:=fun j p e=>M ⟨j,p,e⟩
       rw[t.e2 x fun j p _=>H j p,J.e2 x fun j p _=>H j p]) (by
       rw[hsib];by_cases M:∃j,j<k/\g.getD j false=true/\(eff j).nb≠[]
       ·obtain⟨j,p,Y,G⟩:=M
        exact⟨_,t.e6 j p Y G⟩
       ·exact⟨[],by rw[ph];exact t.e5 fun j p Y=>gu fun h=>M ⟨j,p,Y,h⟩⟩) (fun hlast=>by
       rw[hsib];refine t.e5 fun j p Y=>gu fun h=>?_
       have:=hnb j p h;exact R ((show j=i by omega)▸Y))
     have hnew:=t.step hdd hik R hnb fun j p hEZ L hLZ=>halx i hik j p (fun j=>g.getD j false=true) R hEZ (ZB V aa (V j hEZ)) L hLZ
     refine wx hoZ (wA hcf hSZ W (zfF hstep) v fun a' w' hr'=>ihZ _ a' w' hz2 hcnt hcl2 (.inl ⟨_,?_,hr',fun j p hlj=>?_⟩))
     ·have e:(fun j=>(g.setIfInBounds i true).getD j false=true)=fun j=>g.getD j false=true\/j=i:=by
       funext j;exact propext (I g i j aa)
      rw[e];omega
     ·rcases(I g i j aa).1 hlj with h|h
      ·exact B j p h
      ·omega
    ·
     have u:∀j,j<i->g.getD j false=true:=fun j p=>by
      rcases htl i aa with h|h
      ·omega
      ·exact U j (by simpa using h j p)
     have J:i=k:=by
      rcases Oh k i with h|h
      ·exact absurd (u k h) (B k (Aa _))
      ·omega
     subst J;exact N i stk (Aa _) X (fun j p=>⟨fun h=>by
      rcases Oh j i with h'Z|h'Z
      ·exact h'Z
      ·exact absurd h (B j h'Z),fun h=>u j h⟩) (by simp[Hc]) (full _ s a w t u v)
   ·have hmn:m<ops.size:=by
     rcases Oh m ops.size with h|h
     ·exact h
     ·exact absurd ((B i X).2 aa) R
    exact N m s t hmn B O h5Z
 refine main ops.size _ a w ea (Vf (List.length_filter_le _ _) ea) (fun i y h=>by simp[y]at h) (.inl ⟨C,?_,hr,fun i y h=>?_⟩)
 ·have J:=Sat.start (k:=k) (d:=d) (eff:=eff) hal
  have e:(fun j=>(Array.replicate ops.size false).getD j false=true)=fun _=>False:=by
   funext j;apply propext;by_cases p:j<ops.size<;>simp[p]
  rw[e];exact J
 ·by_cases p:i<ops.size<;>simp[p]at h
end
def Gd(D:List Nat):Loc->Bool
 | .slot i=>!D.contains i
 | .cell ..=>true
structure Part (N:Nat→Prop) (D:List Nat) (s1 s:St):Prop where
 sl:∀ x,¬ N x→look s1.sl x=look s.sl x
 ow:s1.ow.filter (Gd D)=s.ow
 al:s1.al=s.al
 bx:s1.bx=s.bx
 no:∀ q∈s.al,q.1 ∉ D∧Gd D q.2=true
 un:∀ x,x∈D→¬ N x→.slot x ∉ s1.ow
section
variable {N:Nat→Prop} {D:List Nat} {s1 s s':St} {cf:Callee}
theorem Jm{i}:Gd D (.slot i)=true ↔ i∉D:=by simp[Gd]
def Part.own(h:Part N D s1 s){L}(d:∀i,L=.slot i->¬N i):L∈s1.ow ↔ L∈s.ow:=by
 rw[<-h.ow,Yc];cases L with
 |cell b o=>simp[Gd]
 |slot i=>
  rw[Jm];constructor
  ·intro a
   exact⟨a,fun c=>h.un i c (d i rfl) a⟩
  grind
theorem Part.cells(h:Part N D s1 s):s1.ow.filter Ba=s.ow.filter Ba:=by
 rw[<-h.ow,om];apply Co;intro L _;cases L<;>simp[Gd,Ba]
theorem Kl{d}(l):(Va d l).filter (Gd D)=Va d (l.filter (Gd D)):=by
 grind [Va,List.filter_filter]
theorem sv(p)(l:List Loc):(l.filter p).filter (Gd D)=(l.filter (Gd D)).filter p:=by
 grind [List.filter_filter]
def uQ{L}(h:Gd D L=true)(l):(L::l).filter (Gd D)=L::l.filter (Gd D):=la
theorem dA{b}:∀(o)(l),∀L∈gd b o l,Ba L=true
 |_,[],L,h=>by grind [gd]
 |o,p::r,L,h=>by
  simp only[gd]at h;split at h
  ·rcases wb.1 h with rfl|h
   ·rfl
   ·exact dA (o+1) r L h
  ·exact dA (o+1) r L h
def rE{b o}{l}(m):(gd b o l++m).filter (Gd D)=gd b o l++m.filter (Gd D):=by
 rw[List.filter_append];congr 1;refine fx.2 fun L a=>?_
 have:=dA o l L a;cases L with
 |slot i=>cases this
 |cell=>rfl
def Yk{d}{l}{L}:L∈Va d l->L∈l:=fun h=>(Yc.1 h).1
def Part.mk'(h:Part N D s1 s){d}{v}(g:d∉D){ow1 ow}{al}{bx}(b:ow1.filter (Gd D)=ow)(a:∀q∈al,q.1∉D/\Gd D q.2=true)(c:∀x,x∈D->¬N x->.slot x∉ow1):
 Part N D ⟨(d,v)::s1.sl,ow1,al,bx⟩ ⟨(d,v)::s.sl,ow,al,bx⟩:=
 ⟨fun x e=>by simp only[me];split;rfl;exact h.sl x e,b,rfl,rfl,a,c⟩
def Part.Xz(h:Part N D s1 s){ow1 ow}{al}{bx}(b:ow1.filter (Gd D)=ow)(a:∀q∈al,q.1∉D/\Gd D q.2=true)(c:∀x,x∈D->¬N x->.slot x∉ow1):
 Part N D ⟨s1.sl,ow1,al,bx⟩ ⟨s.sl,ow,al,bx⟩:=
 ⟨h.sl,b,rfl,rfl,a,c⟩
def Part.pt(h:Part N D s1 s)(d):∀q∈Lb d s.al,q.1∉D/\Gd D q.2=true:=fun q a=>h.no q (Yc.1 a).1
theorem Part.put(h:Part N D s1 s){d}(e:d∉D)(v):Part N D (s1.put d v) (s.put d v):=by
 have:=h.mk' (v:=v) e (ow1:=Va d s1.ow) (ow:=Va d s.ow) (al:=Lb d s.al) (bx:=s.bx) (by rw[Kl,h.ow]) (h.pt d) fun x a b c=>h.un x a b (Yk c)
 grind [St.put,al,bx]
def hB{d}(e:d∉D){l}(h:∀x,x∈D->¬N x->.slot x∉l):∀x,x∈D->¬N x->.slot x∉(.slot d::l:List Loc):=fun x a b c=>by
 grind
def zhp{b o}{l}(h:∀x,x∈D->¬N x->.slot x∉l):∀x,x∈D->¬N x->.slot x∉(.cell b o::l:List Loc):=fun x a c d=>by
 grind
def mJ{b o}{ps}{l}(h:∀x,x∈D->¬N x->.slot x∉l):∀x,x∈D->¬N x->.slot x∉(gd b o ps++l):=fun x c d a=>by
 rcases We.1 a with a|a
 ·have:=dA o ps _ a;cases this
 grind
theorem Part.Ic(h:Part N D s1 s){d}(a:d∉D)(v):Part N D (s1.Ic d v) (s.Ic d v):=by
 have:=h.mk' (v:=v) a (ow1:=.slot d::Va d s1.ow) (ow:=.slot d::Va d s.ow) (al:=Lb d s.al) (bx:=s.bx) (by grind [Jm,Kl,ow]) (h.pt d)
  (hB a fun x b c e=>h.un x b c (Yk e))
 grind [St.Ic,al,bx]
theorem Part.Pd(h:Part N D s1 s){d}(a:∀x,d=some x->x∉D)(v):Part N D (s1.Pd d v) (s.Pd d v):=by
 cases d with
 |none=>exact h
 |some d=>exact h.put (a d rfl) v
theorem Part.Lc(h:Part N D s1 s){d}(g:∀x,d=some x->x∉D){f}{az}(hs:ya.Lc cf s d f az=some s'):∃b,ya.Lc cf s1 d f az=some b/\Part N D b s':=by
 unfold ya.Lc at hs⊢;rw[h.cells,h.bx];obtain⟨⟨vs,os,bx,oc⟩,c,rfl⟩:=qm hs;rw[c];refine⟨_,rfl,?_⟩;have e:Part N D ⟨s1.sl,oc.filter Ba++s1.ow.filter (fun L=>!Ba L),s1.al.filter fun p=>!Ba p.2,bx⟩ ⟨s.sl,oc.filter Ba++s.ow.filter (fun L=>!Ba L),s.al.filter fun p=>!Ba p.2,bx⟩:=by
  rw[h.al];refine h.Xz ?_ (fun q l=>h.no q (Yc.1 l).1) fun x c j a=>?_
  ·rw[List.filter_append,sv (fun L=>!Ba L),h.ow]
   congr 1;refine fx.2 fun L k=>?_
   have:=(Yc.1 k).2;cases L with
   |slot i=>cases this
   |cell=>rfl
  ·rcases We.1 a with a|a
   ·have:=(Yc.1 a).2;cases this
   ·exact h.un x c j (Yc.1 a).1
 cases d with
 |none=>exact e
 |some d=>
  cases os
  ·exact e.put (g d rfl) _
  ·exact e.Ic (g d rfl) _
theorem Part.Tc(h:Part N D s1 s){d}(c:∀x,d=some x->x∉D){f}{az}(hs:ya.Tc cf s d f az=some s'):∃b,ya.Tc cf s1 d f az=some b/\Part N D b s':=by
 unfold ya.Tc at hs⊢;split at hs
 ·rename_i e
  rw[if_pos e];obtain⟨⟨vs,os,bx,oc⟩,i,a⟩:=qb hs;rw[i,Ja];dsimp only at a⊢;split at a
  ·rename_i g
   rw[if_pos g];cases d with
   |none=>grind
   |some d=>
    cases os
    ·cases a;exact⟨_,rfl,h.put (c d rfl) _⟩
    ·cases a;exact⟨_,rfl,h.Ic (c d rfl) _⟩
  ·rename_i g
   rw[if_neg g];exact h.Lc c a
 ·rename_i e
  rw[if_neg e];exact h.Lc c hs
def Part.xev(h:Part N D s1 s){x:X}(b:∀i∈x.fm,¬N i):x.ev s1.sl=x.ev s.sl:=gX fun i a=>h.sl i (b i a)
theorem Part.origin(h:Part N D s1 s){t}(ht:¬N t):ya.origin s1 t=ya.origin s t:=by
 unfold ya.origin;have:=h.own (L:=.slot t) fun i e=>by grind
 grind [al]
theorem Part.ab(h:Part N D s1 s)(g:∀x,N x->x∈D){t}(ht:¬N t){L}(a:ya.origin s t=some L):ya.ab s1 L=ya.ab s L/\(L∈s1.ow ↔ L∈s.ow)/\∀i,L=.slot i->¬N i:=by
 have c:∀i,L=.slot i->¬N i:=fun i e=>by
  unfold ya.origin at a;split at a
  ·grind
  ·obtain⟨q,d,rfl⟩:=qm a
   have:=(h.no q (List.mem_of_find?_eq_some d)).2
   grind [Jm]
 refine⟨?_,h.own c,c⟩;cases L with
 |slot i=>simp only[ya.ab];rw[h.sl i (c i rfl)]
 |cell b o=>grind [ya.ab,bx]
def UB:Ea->Option Nat
 | .mvA s=>some s
 |_=>none
theorem y5(h:Part N D s1 s)(P:∀x,N x->x∈D){d}(u:∀x,d=some x->x∉D){c}(hr:∀x∈c.xs,∀i∈x.fm,¬N i)(Y:∀i,UB c=some i->i∉D)(hs:ma cf s d c=some s'):∃R,ma cf s1 d c=some R/\Part N D R s':=by
 have B:∀x∈c.xs,x.ev s1.sl=x.ev s.sl:=fun x B=>h.xev (hr x B)
 by_cases T:zj c=true
 ·rw[so T]at hs⊢
  rw[RI B];obtain⟨p,r,rfl⟩:=qm hs;rw[r];exact⟨_,rfl,h.Pd u p⟩
 cases c<;>try (exact absurd rfl T)
 case mvA x=>
  simp only[ma]at hs⊢;obtain⟨d,rfl,l⟩:=qb hs;split at l
  ·cases l
  ·rename_i F
   cases l;have G:look s1.sl x=look s.sl x:=B (.t x) (by simp[Ea.xs]);refine⟨_,by rw[Ja,if_neg F],?_⟩;unfold St.put;rw[G,h.al,h.bx];refine h.mk' (u d rfl) (by rw[Kl,h.ow]) (fun q A=>?_) fun y r l w=>h.un y r l (Yk w)
   rcases wb.1 A with rfl|A
   ·exact⟨u d rfl,Jm.2 (Y x rfl)⟩
   ·exact h.pt d q A
 case asg x=>
  cases x with
  |c v=>exact absurd rfl T
  |t i=>
   have I:¬N i:=hr (.t i) (by simp[Ea.xs]) i (by simp[X.fm]);have G:look s1.sl i=look s.sl i:=h.sl i I;have C:=h.own (L:=.slot i) fun j e=>by grind
   simp only[ma]at hs⊢;cases d with
   |none=>cases hs
   |some d=>
    dsimp only at hs⊢;split at hs
    ·cases hs
    ·rename_i hid
     rw[if_neg hid];split at hs
     ·rename_i J
      cases hs;rw[if_pos (C.2 J)];refine⟨_,rfl,?_⟩;rw[G,h.al,h.bx];refine h.mk' (u d rfl) (by grind [Jm,Kl,Part.ow]) (fun q A=>h.no q (Yc.1 (Yc.1 A).1).1) (hB (u d rfl) fun y r l w=>h.un y r l (Yk (Yk w)))
     ·rename_i J
      cases hs;rw[if_neg fun k=>J (C.1 k),G];exact⟨_,rfl,h.put (u d rfl) _⟩
 case alloc e zs=>
  obtain⟨d,rfl,rfl⟩:=qm hs;refine⟨_,rfl,?_⟩;unfold St.put;rw[h.al,h.bx];exact h.mk' (u d rfl) (by rw[rE,Kl,h.ow]) (h.pt d) (mJ fun y r l w=>h.un y r l (Yk w))
 case box e n x=>
  have z:=B x (by simp[Ea.xs]);simp only[ma]at hs⊢;obtain⟨d,rfl,l⟩:=qb hs;split at l
  ·rename_i E
   cases l;refine⟨_,by rw[Ja,z,if_pos E],?_⟩;unfold St.put;rw[h.al,h.bx];exact h.mk' (u d rfl) (by rw[rE,Kl,h.ow]) (h.pt d) (mJ fun y r l w=>h.un y r l (Yk w))
  grind
 case mksl S n size zs ps=>
  simp only[ma]at hs⊢;obtain⟨d,rfl,l⟩:=qb hs;obtain⟨cs,r,w⟩:=qb l;have:(ps.map fun q=>(q.1,q.2.1,q.2.2.ev s1.sl))=ps.map fun q=>(q.1,q.2.1,q.2.2.ev s.sl):=zl fun q A=>by rw[B q.2.2 (zi.2 ⟨q,A,rfl⟩)]
  split at w
  ·cases w
   refine⟨_,la,h.Ic (u d rfl) _⟩
  grind
 case b2s x=>
  simp only[ma]at hs⊢;obtain⟨p,r,rfl⟩:=qm hs;rw[B x (by simp[Ea.xs]),h.bx,r];exact⟨_,rfl,h.Pd u p⟩
 case load F n x=>
  simp only[ma]at hs⊢;obtain⟨d,rfl,l⟩:=qb hs;obtain⟨p,r,rfl⟩:=qm l;rw[B x (by simp[Ea.xs]),h.bx,r];exact⟨_,rfl,h.put (u d rfl) p⟩
 case loadA x=>
  have z:=B x (by simp[Ea.xs]);simp only[ma]at hs⊢;obtain⟨d,rfl,l⟩:=qb hs;split at l
  ·rename_i b o e
   obtain⟨p,r,rfl⟩:=qm l;rw[z,e,h.bx];refine⟨_,by simp only[Ja,r,jd];rfl,?_⟩;unfold St.put;rw[h.al,h.bx];refine h.mk' (u d rfl) (by rw[Kl,h.ow]) (fun q A=>?_) fun y r l w=>h.un y r l (Yk w)
   rcases wb.1 A with rfl|A
   ·exact⟨u d rfl,rfl⟩
   ·exact h.pt d q A
  grind
 case loadM x=>
  have z:=B x (by simp[Ea.xs]);simp only[ma]at hs⊢;obtain⟨d,rfl,l⟩:=qb hs;split at l
  ·rename_i b o e
   obtain⟨p,r,l⟩:=qb l;split at l
   case isFalse=>cases l
   rename_i E;cases l;rw[z,e,h.bx];refine⟨_,by simp only[Ja,r];rw[if_pos ((h.own (L:=.cell b o) fun i e=>by cases e).2 E)],?_⟩;unfold St.put;rw[h.bx];refine h.mk' (u d rfl) (by grind [Jm,sv,Kl,Part.ow]) (fun q A=>by cases A) fun y r l w=>?_
   rcases wb.1 w with w|w
   ·grind
   ·exact h.un y r l (Yk (Yc.1 w).1)
  grind
 case store n a x=>
  have U:=B a (by simp[Ea.xs]);have z:=B x (by simp[Ea.xs]);simp only[ma]at hs⊢;split at hs
  ·rename_i b o e
   rw[U,z,h.bx]
   try rw[e]
   try dsimp only
   obtain⟨q,r,l⟩:=qb hs;rw[r,Ja];split at l
   ·rename_i E
    rw[if_pos E];have F:∀q∈s.al.filter (fun p=>!Od b o n p.2),q.1∉D/\Gd D q.2=true:=fun q A=>h.no q (Yc.1 A).1
    have K:(gd b o (x.ev s.sl).cells++s1.ow.filter fun L=>!Od b o n L).filter (Gd D)=gd b o (x.ev s.sl).cells++s.ow.filter fun L=>!Od b o n L:=by rw[rE,sv,h.ow]
    have M:∀y,y∈D->¬N y->.slot y∉(gd b o (x.ev s.sl).cells++s1.ow.filter fun L=>!Od b o n L):=mJ fun y r l w=>h.un y r l (Yc.1 w).1
    cases x with
    |c v=>
     cases l;refine⟨_,rfl,?_⟩;rw[h.al];exact h.Xz K F M
    |t i=>
     have I:¬N i:=hr (.t i) (by simp[Ea.xs]) i (by simp[X.fm]);have C:=h.own (L:=.slot i) fun j e=>by grind
     dsimp only at l⊢;split at l
     ·rename_i J
      cases l;rw[if_pos (C.2 J)];refine⟨_,rfl,?_⟩;rw[h.al];exact h.Xz (by rw[uQ rfl,Kl,K]) (fun q A=>F q (Yc.1 A).1) (zhp fun y r l w=>M y r l (Yk w))
     ·rename_i J
      cases l;rw[if_neg fun k=>J (C.1 k)];refine⟨_,rfl,?_⟩;rw[h.al];exact h.Xz K F M
   grind
  grind
 case append S size x y=>
  have z:=B x (by simp[Ea.xs]);have O:=B y (by simp[Ea.xs]);simp only[ma]at hs⊢;rw[z,O];split at hs
  ·rename_i H
   rw[if_pos H];split at hs
   ·split at hs
    ·rename_i E
     rw[if_pos E];obtain⟨d,rfl,rfl⟩:=qm hs;refine⟨_,rfl,?_⟩;split
     ·exact h.put (u d rfl) _
     ·exact h.Ic (u d rfl) _
    grind
   grind
  ·rename_i H
   rw[if_neg H];cases x with
   |c v=>cases hs
   |t i=>
    have I:¬N i:=hr (.t i) (by simp[Ea.xs]) i (by simp[X.fm]);dsimp only at hs⊢;obtain⟨L,r,hs⟩:=qb hs;obtain⟨d,rfl,hs⟩:=qb hs;obtain⟨V,W,Z⟩:=h.ab P I r;rw[h.origin I,r,Ja,Ja,V];split at hs
    ·split at hs
     ·rename_i E
      cases hs;obtain⟨c1,c2,c3,c4,c5⟩:=E;refine⟨_,by rw[if_pos ⟨c1,c2,c3,W.2 c4,c5⟩],?_⟩;rw[h.al,h.bx];exact h.mk' (u d rfl) (by rw[uQ (Jm.2 (u d rfl)),Kl,sv,h.ow]) (fun q A=>h.no q (Yc.1 (Yc.1 A).1).1) (hB (u d rfl) fun y r l w=>h.un y r l (Yc.1 (Yk w)).1)
     ·cases hs
    ·cases hs
 case appendS x y=>
  have z:=B x (by simp[Ea.xs]);have O:=B y (by simp[Ea.xs]);simp only[ma]at hs⊢;rw[z,O];split at hs
  ·rename_i H
   rw[if_pos H];split at hs
   ·split at hs
    ·rename_i E
     rw[if_pos E];obtain⟨d,rfl,rfl⟩:=qm hs;refine⟨_,rfl,?_⟩;split
     ·exact h.put (u d rfl) _
     ·exact h.Ic (u d rfl) _
    grind
   grind
  ·rename_i H
   rw[if_neg H];cases x with
   |c v=>cases hs
   |t i=>
    have I:¬N i:=hr (.t i) (by simp[Ea.xs]) i (by simp[X.fm]);dsimp only at hs⊢;obtain⟨L,r,hs⟩:=qb hs;obtain⟨d,rfl,hs⟩:=qb hs;obtain⟨V,W,Z⟩:=h.ab P I r;rw[h.origin I,r,Ja,Ja,V];split at hs
    ·split at hs
     ·rename_i E
      cases hs;obtain⟨c1,c2,c3,c4⟩:=E;refine⟨_,by rw[if_pos ⟨c1,c2,W.2 c3,c4⟩],?_⟩;rw[h.al,h.bx];exact h.mk' (u d rfl) (by grind [Jm,Kl,sv,Part.ow]) (fun q A=>h.no q (Yc.1 (Yc.1 A).1).1) (hB (u d rfl) fun y r l w=>h.un y r l (Yc.1 (Yk w)).1)
     ·cases hs
    ·cases hs
 case call f args=>
  have:(args.map fun x=>(x.ev s1.sl).ib)=args.map fun x=>(x.ev s.sl).ib:=zl fun x h=>by rw[B x h]
  simp only[ma]at hs⊢;rw[this];exact h.Tc u hs
 case callv g args=>
  have:(args.map fun x=>(x.ev s1.sl).ib)=args.map fun x=>(x.ev s.sl).ib:=zl fun x h=>by rw[B x (rn _ h)]
  simp only[ma]at hs⊢;rw[this,B g (by simp[Ea.xs])];split at hs
  ·split at hs
   ·cases hs
   ·rename_i Q
    rw[if_neg Q];exact h.Tc u hs
  ·split at hs
   ·rename_i Q
    rw[if_pos Q];exact h.Tc u hs
   ·cases hs
  ·exact h.Lc u hs
  grind
 case calli Ih g args=>
  have:(args.map fun x=>(x.ev s1.sl).ib)=args.map fun x=>(x.ev s.sl).ib:=zl fun x h=>by rw[B x (rn _ h)]
  simp only[ma]at hs⊢;rw[this,B g (by simp[Ea.xs])];split at hs
  ·obtain⟨f,Q,hs⟩:=qb hs
   rw[Q,Ja];split at hs
   ·cases hs
   ·rename_i H
    rw[if_neg H];exact h.Tc u hs
  ·cases hs
def frame(h:Part N D s1 s)(e:∀x,N x->x∈D){o}(g:∀x,o.dst=some x->x∉D)(hr:∀i∈o.reads,¬N i)(l:∀i,UB o.op=some i->i∉D)(hs:stepG cf s o=some s'):∃a,stepG cf s1 o=some a/\Part N D a s':=by
 have j:fh s1 o.g=fh s o.g:=by
  cases k:o.g with
  |none=>rfl
  |some q=>
   obtain⟨i,w⟩:=q;simp only[fh];rw[h.sl i (hr i (by simp[Ta.reads,k]))]
 unfold stepG at hs⊢;rw[j];obtain⟨b,d,c⟩:=qb hs;rw[d,Ja];cases b with
 |false=>
  simp only[Ha,if_false,Pb]at c⊢;subst c;exact⟨_,rfl,h.Pd g _⟩
 |true=>
  grind [y5,Ta.reads]
end
def Zv:Ea->Bool
 | .load ..=>true
 |_=>false
def FA(qs:List FuncId):Ea->Bool
 | .call f _=>qs.contains f
 |_=>false
def Ht(qs:List FuncId)(c:Ea):Bool:=zj c||(Zv c||FA qs c)
def dB:Ea->Bool
 | .store .. | .call .. | .callv .. | .calli .. | .alloc .. | .box .. | .loadA .. | .loadM .. | .append .. | .appendS ..=>true
 |_=>false
def FB:Ea->Bool
 | .store .. | .call .. | .callv .. | .calli ..=>true
 |_=>false
section
variable {cf:Callee} {st st' stk:St}
def Bx(st a:St)(c:Ea):Prop:=(Zv c=true->∃z,a.bx=st.bx++z)/\(zj c=false->Zv c=false->a.bx=st.bx/\a.ow.filter Ba=st.ow.filter Ba/\∀q∈a.al,Ba q.2=false)
structure ej (s s':St):Prop where
 sl:∀ x,look s'.sl x=look s.sl x
 ow:∀ L,L∈s.ow→L∈s'.ow
 al:∀ q,q∈s.al→q∈s'.al
 bx:s'.bx=s.bx
def ej.rfl'(s):ej s s:=⟨fun _=>rfl,fun _ h=>h,fun _ h=>h,rfl⟩
theorem qV{d}{f}{az}{a}(h:Lc cf st (some d) f az=some st')(k:st'.bx=st.bx)(e:st'.ow.filter Ba=st.ow.filter Ba)(b:a.bx=st.bx)(c:a.ow.filter Ba=st.ow.filter Ba)(j:∀q∈a.al,Ba q.2=false):
 ∃s',Lc cf a (some d) f az=some s'/\ej (a.put d (look st'.sl d)) s':=by
 unfold Lc at h⊢;rw[b,c];obtain⟨⟨vs,os,bx,oc⟩,i,rfl⟩:=qm h;rw[i];refine⟨_,rfl,?_⟩;have g:oc.filter Ba=st.ow.filter Ba:=by
  rw[<-e];have e1:∀l:List Loc,(Va d l).filter Ba=l.filter Ba:=fun l=>by
   unfold Va;rw[om];apply Co;intro L _;cases L<;>simp[Ba,Xd]
  have e2:(oc.filter Ba++st.ow.filter (fun L=>!Ba L)).filter Ba=oc.filter Ba:=by
   rw[List.filter_append,om,om];have:st.ow.filter (fun L=>Ba L&& !Ba L)=[]:=List.filter_eq_nil_iff.2 fun L _=>by simp
   rw[this,ph];apply Co;intro L _;simp
  cases os
  ·show _=(Va d _).filter Ba
   grind
  ·show _=(.slot d::Va d _:List Loc).filter Ba
   grind [Ba]
 grind [Va,Lb,ej.mk,St.put,me,St.Ic]
def zdO{d}{f}{az}{a}(h:Tc cf st (some d) f az=some st')(g:st'.bx=st.bx)(i:st'.ow.filter Ba=st.ow.filter Ba)(b:a.bx=st.bx)(c:a.ow.filter Ba=st.ow.filter Ba)(e:∀q∈a.al,Ba q.2=false):
 ∃s',Tc cf a (some d) f az=some s'/\ej (a.put d (look st'.sl d)) s':=by
 unfold Tc at h⊢;split at h
 ·obtain⟨⟨vs,os,bx,oc⟩,j,k⟩:=qb h
  grind [ej.mk,St.put,me,St.Ic,qV]
 grind [qV]
theorem zfI{qs}{o}{d}(l:Ht qs o.op=true)(A:o.dst=some d)(h:Qc cf st o=some st'):
 ∃p,st'=st.put d p/\∀a,(∀x∈o.reads,look a.sl x=look st.sl x)->Bx st a o.op->∃s',stepG cf a o=some s'/\ej (a.put d p) s':=by
 obtain⟨dst,g,c⟩:=o;subst A;have i:∀b,fh st g=some b->∀a:St,(∀s∈(Ta.mk (some d) g c).reads,look a.sl s=look st.sl s)->fh a g=some b:=fun b j a h=>by
  grind [fh,Ta.reads]
 have y:∀a:St,(∀s∈(Ta.mk (some d) g c).reads,look a.sl s=look st.sl s)->∀x∈c.xs,x.ev a.sl=x.ev st.sl:=fun a h=>nE fun s hs=>h s (by grind [Ta.reads])
 by_cases q:zj c=true
 ·have hs:stepG cf st ⟨some d,g,c⟩=some st':=by
   unfold Qc at h;cases c<;>first|exact h|(cases q;done)
  obtain⟨b,j,e⟩:=qb hs;cases b with
  |false=>
   simp only[Ha,if_false,Pb]at e;subst e;exact⟨.Jc [],rfl,fun a hr _=>⟨_,by unfold stepG;simp only[i _ j a hr,Ja,Ha,if_false];rfl,ej.rfl' _⟩⟩
  |true=>
   rw[so q]at e;obtain⟨p,r,rfl⟩:=qm e;refine⟨p,rfl,fun a hr _=>⟨a.put d p,?_,ej.rfl' _⟩⟩;unfold stepG;simp only[i _ j a hr,Ja,if_true,so q,RI (y a hr),r];rfl
 ·have v:zj c=false:=by simpa using q
  unfold Ht at l;rw[v]at l;simp only[Wg,mq]at l;rcases l with B|C
  ·cases c<;>try (cases B;done)
   case load t n x=>
    have hs:stepG cf st ⟨some d,g,.load t n x⟩=some st':=h;obtain⟨b,j,e⟩:=qb hs;cases b with
    |false=>
     simp only[Ha,if_false,Pb]at e;subst e;exact⟨.Jc [],rfl,fun a hr _=>⟨_,by unfold stepG;simp only[i _ j a hr,Ja,Ha,if_false];rfl,ej.rfl' _⟩⟩
    |true=>
     obtain⟨p,r,rfl⟩:=qm e;refine⟨p,rfl,fun a hr k=>⟨a.put d p,?_,ej.rfl' _⟩⟩;obtain⟨z,k⟩:=k.1 rfl;unfold stepG;simp only[i _ j a hr,Ja,if_true,ma,y a hr x (by simp[Ea.xs]),k,JS z r,jd]
  ·cases c<;>try (cases C;done)
   case call f args=>
    obtain⟨s',hs,h⟩:=qb h;split at h
    case isFalse=>cases h
    rename_i w;cases h;obtain⟨t,u⟩:=w;refine⟨_,rfl,fun a hr k=>?_⟩;obtain⟨D,E,z3⟩:=k.2 rfl rfl;unfold stepG at hs⊢;obtain⟨b,j,e⟩:=qb hs;rw[i _ j a hr,Ja];cases b with
    |false=>
     grind [ej.mk,St.Pd,St.put,me]
    |true=>
     simp only[if_true,ma]at e⊢;have:(args.map fun x=>(x.ev a.sl).ib)=args.map fun x=>(x.ev st.sl).ib:=zl fun x h=>by rw[y a hr x h]
     rw[this];exact zdO e t u D E z3
theorem GU{qs}{D}:∀(l)(st stk),bg cf l st=some stk->l.Pairwise (fun o T=>∀d,T.dst=some d->d∉o.reads/\o.dst≠some d)->(∀o∈l,Ht qs o.op=true/\o.dst.isSome=true/\∀d,o.dst=some d->d∉o.reads)->(∀d,d∈D ↔ ∃o∈l,o.dst=some d)->st.al=[]->
 stk.bx=st.bx/\stk.al=[]/\(∀L,L∈stk.ow ↔ L∈st.ow/\Gd D L=true)/\stk.ow=st.ow.filter (Gd D)/\(∀x,x∉D->look stk.sl x=look st.sl x)/\
 ∀o∈l,∀d,o.dst=some d->∀a,(∀x∈o.reads,look a.sl x=look stk.sl x)->Bx stk a o.op->∃s',stepG cf a o=some s'/\ej (a.put d (look stk.sl d)) s'
 |[],st,stk,h,_,_,K,c=>by
  simp only[bg,Pb]at h;have b:∀L,Gd D L=true:=fun L=>by
   cases L with
   |slot i=>grind [Jm]
   |cell=>rfl
  grind [List.filter_eq_self]
 |o::l,st,stk,h,G,E,K,c=>by
  obtain⟨s1,I,J⟩:=qb h;obtain⟨r,t,z⟩:=E o iu;obtain⟨d,C⟩:=vB.1 t;obtain⟨p,rfl,j⟩:=zfI r C I;rw[List.pairwise_cons]at G;obtain⟨b,M⟩:∃b:List Nat,b=l.filterMap (·.dst):=⟨_,rfl⟩;have k:∀x,x∈b ↔ ∃o∈l,o.dst=some x:=fun x=>by grind
  have e:(st.put d p).al=[]:=by simp[St.put,c,Lb]
  obtain⟨A,P,X,Q,R,S⟩:=GU (D:=b) l _ stk J G.2 (fun o N=>E o (rn _ N)) k e;have n:d∉b:=fun F=>by
   grind
  have B:∀L,Gd D L=(Gd b L&& !Xd d L):=fun L=>by
   cases L<;>grind [Gd,Xd]
  have u:look stk.sl d=p:=by rw[R d n];simp[St.put,me]
  refine⟨A,P,fun L=>?_,?_,fun x O=>?_,fun q y=>?_⟩
  ·grind [St.put,Va]
  ·grind [St.put,Va,List.filter_filter,List.filter_congr]
  ·grind [St.put,me]
  ·rcases wb.1 y with rfl|y
   ·intro W g a hr H
    rw[C]at g;cases g;rw[u];refine j a (fun x O=>?_) ⟨fun F=>?_,fun v w=>?_⟩
    ·grind [St.put,me]
    ·rw[<-show stk.bx=st.bx from A];exact H.1 F
    ·obtain⟨U,V,z3⟩:=H.2 v w
     refine⟨by rw[U];exact A,?_,z3⟩;rw[V,Q,om];simp only[St.put,Va];rw[om];apply Co;intro L _;cases L<;>simp[Ba,Gd,Xd]
   ·exact S q y
end
instance:Inhabited Ta:=⟨⟨none,none,.alloc 0 []⟩⟩
def bw(g:Nat->BT)(cs:List Ta):List Nat->BT
 |[]=>.done
 |[j]=>.one (cs.getD j default) (g j)
 |j::k::r=>.two (cs.getD j default) (g j) (bw g cs (k::r))
def yw(n:Nat)(b:List (List Nat))(ps a:List Nat):List Nat:=(List.range n).filter fun j=>!ps.contains j&&(!a.contains j&&(b.getD j []).all fun x=>ps.contains x||a.contains x)
def Pp(n:Nat)(a:List (List Nat))(ps:List Nat)(cs:List Ta):Nat->List Nat->BT
 |0,_=>.done
 |f+1,b=>bw (fun j=>Pp n a ps cs f (j::b)) cs (yw n a ps b)
def rb(cs:List Ta)(i:Nat):Ta:=cs.getD i default
def Qy(qs:List FuncId)(ops:Array Oper)(cs:List Ta)(ps:List Nat):Bool:=
 let a:=Gl ops
 let n:=ops.size
 cs.length==n&&
 (List.range n).all (fun i=>(eh ops i).all (·<i))&&
 ps.all (fun i=>decide (i<n)&&(Ht qs (rb cs i).op&&(rb cs i).dst.isSome))&&
 ps.all (fun i=>(List.range n).all fun j=>i==j||(rb cs j).dst !=(rb cs i).dst)&&
 (List.range n).all (fun i=>(rb cs i).reads.all fun s=>ps.all fun j=>(rb cs j).dst !=some s||(decide (j<i)&&(a.getD i []).contains j))&&
 ps.all (fun i=>(rb cs i).reads.all fun s=>(List.range n).all fun j=>(rb cs j).dst !=some s||(ps.contains j||(a.getD j []).contains i))&&
 ps.all (fun i=>!Zv (rb cs i).op||(List.range n).all fun j=>!FB (rb cs j).op||(ps.contains j||(a.getD j []).contains i))&&
 ps.all (fun i=>!FA qs (rb cs i).op||(List.range n).all fun j=>!dB (rb cs j).op||(ps.contains j||(a.getD j []).contains i))&&
 (List.range n).all (fun j=>ps.contains j||(match UB (rb cs j).op with|some s=>ps.all fun i=>(rb cs i).dst !=some s|none=>true))&&
 decide (ps.Pairwise (·<·))
section
variable {P:Program} {w w':World} {r:Option Nat} {a a':Act} {cf:Callee} {Γ:ue} {S:S0}
def RA{α}{a b}{x:α}(h:same a b=some x):a=some x/\b=some x:=by
 grind [same]
theorem oQ{live}{g}{cs}{s F}:∀(l),yd cf live (bw g cs l) s=some F->∀j∈l,∃s',stepG cf s (rb cs j)=some s'/\yd cf live (g j) s'=some F
 |[],_,j,a=>by cases a
 |[i],h,j,a=>by
  obtain rfl:j=i:=la
  exact qb h
 |i::k::l,h,j,a=>by
  obtain⟨b,c⟩:=RA h;rcases wb.1 a with rfl|a
  ·exact qb b
  ·exact oQ (k::l) c j a
theorem h4{s s'}{d}{c}(g:FB c=false)(h:ma cf s d c=some s'):∃z,s'.bx=s.bx++z:=by
 have put:∀(d:Option Nat) v,(s.Pd d v).bx=s.bx++[]:=fun d v=>by cases d<;>simp[St.Pd,St.put]
 by_cases l:zj c=true
 ·grind [so,Option.map_eq_some_iff]
 cases c<;>try (exact absurd rfl l)
 case mvA x=>
  obtain⟨d,rfl,a⟩:=qb h;split at a
  ·cases a
  ·cases a;exact⟨[],by simp[St.put]⟩
 case asg x=>
  cases x with
  |c v=>exact absurd rfl l
  |t i=>
   simp only[ma]at h;cases d with
   |none=>cases h
   |some d=>
    dsimp only at h;split at h
    ·cases h
    ·split at h<;>(cases h;exact⟨[],by simp[St.put]⟩)
 case alloc e zs=>
  simp only[ma]at h
  grind [Option.map_eq_some_iff]
 case box e n x=>
  simp only[ma]at h
  grind [Option.bind_eq_some_iff]
 case mksl j n size zs ps=>
  obtain⟨d,rfl,a⟩:=qb h;obtain⟨cs,b,k⟩:=qb a;split at k
  ·cases k;exact⟨[],by simp[St.Ic]⟩
  grind
 case b2s x=>
  simp only[ma]at h
  grind [Option.map_eq_some_iff]
 case load k n x=>
  obtain⟨d,rfl,a⟩:=qb h;obtain⟨p,b,rfl⟩:=qm a;exact⟨[],by simp[St.put]⟩
 case loadA x=>
  obtain⟨d,rfl,a⟩:=qb h;split at a
  ·obtain⟨p,b,rfl⟩:=qm a
   exact⟨[],by simp[St.put]⟩
  grind
 case loadM x=>
  obtain⟨d,rfl,a⟩:=qb h;split at a
  ·obtain⟨p,b,a⟩:=qb a
   split at a
   ·cases a;exact⟨[],by simp[St.put]⟩
   grind
  grind
 case store=>cases g
 case append j size x y=>
  simp only[ma]at h;split at h
  ·split at h
   ·split at h
    ·obtain⟨d,rfl,rfl⟩:=qm h
     refine⟨[],?_⟩
     grind [St.put,St.Ic]
    grind
   grind
  ·split at h
   ·obtain⟨L,b,h⟩:=qb h
    obtain⟨d,rfl,h⟩:=qb h;split at h
    ·split at h
     ·cases h;simp
     ·cases h
    ·cases h
   grind
 case appendS x y=>
  simp only[ma]at h;split at h
  ·split at h
   ·split at h
    ·obtain⟨d,rfl,rfl⟩:=qm h
     refine⟨[],?_⟩
     grind [St.put,St.Ic]
    grind
   grind
  ·split at h
   ·obtain⟨L,b,h⟩:=qb h
    obtain⟨d,rfl,h⟩:=qb h;split at h
    ·split at h
     ·cases h;simp
     ·cases h
    grind
   grind
 case call=>cases g
 case callv=>cases g
 case calli=>cases g
def i4{s s'}{o}(d:FB o.op=false)(h:stepG cf s o=some s'):∃z,s'.bx=s.bx++z:=by
 obtain⟨b,c,a⟩:=qb h;cases b with
 |false=>
  simp only[Ha,if_false,Pb]at a;subst a;exact⟨[],by cases o.dst<;>simp[St.Pd,St.put]⟩
 |true=>grind [h4]
theorem MS{s s'}{d}{f}{az}(h:Lc cf s d f az=some s')(x)(a:d≠some x):look s'.sl x=look s.sl x:=by
 grind [Lc,Option.map_eq_some_iff,St.put,St.Ic,me]
theorem iH{s s'}{d}{f}{az}(h:Tc cf s d f az=some s')(x)(a:d≠some x):look s'.sl x=look s.sl x:=by
 grind [Tc,Option.bind_eq_some_iff,St.put,St.Ic,me,MS]
theorem x_{s s'}{d}{c}(h:ma cf s d c=some s')(x)(k:d≠some x):look s'.sl x=look s.sl x:=by
 have put:∀(d:Option Nat) v,d≠some x->look (s.Pd d v).sl x=look s.sl x:=fun d v u=>by
  cases d<;>grind [St.Pd,St.put,me]
 by_cases r:zj c=true
 ·grind [so,Option.map_eq_some_iff]
 have b:∀(d:Nat) v,some d≠some x->look ((d,v)::s.sl) x=look s.sl x:=fun d v u=>by
  grind [me]
 cases c<;>try (exact absurd rfl r)
 case mvA x=>
  obtain⟨d,rfl,j⟩:=qb h;split at j
  ·cases j
  ·cases j;exact b _ _ k
 case asg y=>
  cases y with
  |c v=>exact absurd rfl r
  |t i=>
   simp only[ma]at h;cases d with
   |none=>cases h
   |some d=>
    dsimp only at h;split at h
    ·cases h
    ·split at h<;>(cases h;exact b _ _ k)
 case alloc e zs=>
  obtain⟨d,rfl,rfl⟩:=qm h;exact b _ _ k
 case box e n x=>
  obtain⟨d,rfl,j⟩:=qb h;split at j
  ·cases j;exact b _ _ k
  grind
 case mksl l n size zs ps=>
  obtain⟨d,rfl,j⟩:=qb h;obtain⟨cs,o,q⟩:=qb j;split at q
  ·cases q;exact b _ _ k
  grind
 case b2s y=>
  simp only[ma]at h
  grind [Option.map_eq_some_iff]
 case load q n y=>
  obtain⟨d,rfl,j⟩:=qb h;obtain⟨p,o,rfl⟩:=qm j;exact b _ _ k
 case loadA y=>
  obtain⟨d,rfl,j⟩:=qb h;split at j
  ·obtain⟨p,o,rfl⟩:=qm j
   exact b _ _ k
  grind
 case loadM y=>
  obtain⟨d,rfl,j⟩:=qb h;split at j
  ·obtain⟨p,o,j⟩:=qb j
   split at j
   ·cases j;exact b _ _ k
   grind
  grind
 case store n a y=>
  simp only[ma]at h
  grind [Option.bind_eq_some_iff]
 case append l size y z=>
  simp only[ma]at h;split at h
  ·split at h
   ·split at h
    ·obtain⟨d,rfl,rfl⟩:=qm h
     split<;>exact b _ _ k
    grind
   grind
  grind [Option.bind_eq_some_iff]
 case appendS y z=>
  simp only[ma]at h;split at h
  ·split at h
   ·split at h
    ·obtain⟨d,rfl,rfl⟩:=qm h
     split<;>exact b _ _ k
    grind
   grind
  grind [Option.bind_eq_some_iff]
 case call f args=>
  simp only[ma]at h
  grind [iH]
 case callv g args=>
  simp only[ma]at h
  grind [iH,MS]
 case calli Ih g args=>
  simp only[ma]at h
  grind [iH,Option.bind_eq_some_iff]
theorem PS{s s'}{o}(h:stepG cf s o=some s')(x)(e:o.dst≠some x):look s'.sl x=look s.sl x:=by
 obtain⟨b,a,c⟩:=qb h;cases b with
 |false=>
  cases d:o.dst<;>grind [St.Pd,St.put,me]
 |true=>grind [x_]
theorem vW{s s'}{d}{c}(k:dB c=false)(h:ma cf s d c=some s'):s'.bx=s.bx/\s'.ow.filter Ba=s.ow.filter Ba/\((∀q∈s.al,Ba q.2=false)->∀q∈s'.al,Ba q.2=false):=by
 have e1:∀(d:Nat)(l:List Loc),(Va d l).filter Ba=l.filter Ba:=fun d l=>by
  unfold Va;rw[om];apply Co;intro L _;cases L<;>simp[Ba,Xd]
 have e2:∀(i:Nat)(l:List Loc),(.slot i::l:List Loc).filter Ba=l.filter Ba:=fun i l=>by rfl
 have e3:∀(d:Nat)(l:List (Nat×Loc)),(∀q∈l,Ba q.2=false)->∀q∈Lb d l,Ba q.2=false:=fun d l e q b=>e q (Yc.1 b).1
 have put:∀(d:Option Nat) v,(s.Pd d v).bx=s.bx/\(s.Pd d v).ow.filter Ba=s.ow.filter Ba/\((∀q∈s.al,Ba q.2=false)->∀q∈(s.Pd d v).al,Ba q.2=false):=fun d v=>by
  cases d with
  |none=>exact⟨rfl,rfl,id⟩
  |some d=>exact⟨rfl,e1 d _,e3 d _⟩
 by_cases g:zj c=true
 ·grind [so,Option.map_eq_some_iff]
 cases c<;>first|exact absurd rfl g|(cases k;done)|skip
 case mvA x=>
  obtain⟨d,rfl,a⟩:=qb h;split at a
  ·cases a
  ·cases a
   refine⟨rfl,e1 d _,fun e q b=>?_⟩;rcases wb.1 b with rfl|b
   ·rfl
   grind
 case asg x=>
  cases x with
  |c v=>exact absurd rfl g
  |t i=>
   simp only[ma]at h;cases d with
   |none=>cases h
   |some d=>
    dsimp only at h;split at h
    ·cases h
    ·split at h
     ·grind
     ·cases h
      exact put (some d) _
 case mksl j n size zs ps=>
  simp only[ma]at h
  grind [Option.bind_eq_some_iff,St.Ic]
 case b2s x=>
  simp only[ma]at h
  grind [Option.map_eq_some_iff]
 case load j n x=>
  obtain⟨d,rfl,a⟩:=qb h;obtain⟨p,o,rfl⟩:=qm a;exact put (some d) p
theorem zg7{s s'}{o}(g:dB o.op=false)(h:stepG cf s o=some s'):s'.bx=s.bx/\s'.ow.filter Ba=s.ow.filter Ba/\((∀q∈s.al,Ba q.2=false)->∀q∈s'.al,Ba q.2=false):=by
 obtain⟨b,e,a⟩:=qb h;cases b with
 |false=>
  simp only[Ha,if_false,Pb]at a;subst a;exact vW (cf:=cf) (s:=s) (d:=o.dst) (c:=.mv (.c (.Jc []))) rfl pa
 |true=>grind [vW]
def M5{cs}{j}(h:j<cs.length):cs[j]?=some (rb cs j):=by simp[rb,h]
theorem J2{qs}(hcf:Gb P Γ cf)(hSZ:Good Γ S){ops}{ali}{cs}{ps}{Q}{Z stk}(hok:Qy qs ops cs ps=true)
 (hco:∀(j:Nat)(c),cs[j]?=some c->∃o,ops[j]?=some o/\Ho P S.nt ops ali o c) (hal:Z.al=[]) (hpre:bg cf (ps.map (rb cs)) Z=some stk)
 {TP:BT->St->Prop} {Dies:Nat->St->Prop} (hmemT:∀(g)(s)(l),TP (bw g cs l) s->∀j∈l,(∃s',stepG cf s (rb cs j)=some s'/\TP (g j) s')\/Dies j s) (hfin:∀s a w,TP .done s->Rl P S s a w->Q .normal a w)
 (hdies:∀j s,Dies j s->∀s1 o a w K,(∀x∈(rb cs j).reads,look s1.sl x=look s.sl x)->(∀x,(∀i∈ps,(rb cs i).dst≠some x)->look s1.sl x=look s.sl x)->s1.bx=s.bx->s1.ow.filter Ba=s.ow.filter Ba->Ho P S.nt ops ali o (rb cs j)->Rl P S s1 a w->if Region.wanted o (yielded ops a.tmps)then o.wpIn (fw r) 0 P a w K Q else(∀f,o.about P w a.eval=some f->(fw r).fn f)/\K (a.put o.dst undef) w)
 (I:TP (Pp ops.size (Gl ops) ps cs ops.size []) stk) (hr:Rl P S Z a w):wpAnyIn (fw r) 0 P .any ops Q ops.size (Array.replicate ops.size false) a w:=by
 unfold Qy at hok;simp only[cc,decide_eq_true_eq,Ag,Zi,mq,bne_iff_ne,ne_eq,beq_iff_eq,List.contains_iff_mem,nx]at hok;obtain⟨⟨⟨⟨⟨⟨⟨⟨⟨hlen,hback⟩,A⟩,hdist⟩,C⟩,hwar⟩,J⟩,M⟩,hali⟩,hsort⟩:=hok;obtain⟨n,hnZ⟩:∃n,ops.size=n:=⟨_,rfl⟩;obtain⟨anZ,han⟩:∃anZ,Gl ops=anZ:=⟨_,rfl⟩;rw[hnZ]at hlen hback A hdist C hwar J M hali I;rw[han]at C hwar J M I;have hdst:∀i∈ps,∃d,(rb cs i).dst=some d:=fun i y=>vB.1 (A i y).2.2
 obtain⟨D,hDe⟩:∃D:List Nat,D=ps.filterMap fun i=>(rb cs i).dst:=⟨_,rfl⟩
 have hDZ:∀d,d∈D ↔ ∃i∈ps,(rb cs i).dst=some d:=fun d=>by rw[hDe,gx]
 have hself:∀i∈ps,∀d,(rb cs i).dst=some d->d∉(rb cs i).reads:=fun i y d W hmZ=>by
  grind
 obtain⟨f1Z,f2Z,f3Z,f4Z,f5Z,f6Z⟩:=GU (qs:=qs) (D:=D) (ps.map (rb cs)) Z stk hpre (by
  rw[List.pairwise_map];refine(List.Pairwise.and_mem.1 hsort).imp ?_
  grind) (fun o hoZ=>by
  obtain⟨i,y,rfl⟩:=zi.1 hoZ;exact⟨(A i y).2.1,(A i y).2.2,hself i y⟩) (fun d=>by
  grind) hal
 have f7Z:∀i∈ps,∀d,(rb cs i).dst=some d->∀st2:St,(∀x∈(rb cs i).reads,look st2.sl x=look stk.sl x)->Bx stk st2 (rb cs i).op->∃s',stepG cf st2 (rb cs i)=some s'/\ej (st2.put d (look stk.sl d)) s':=
  fun i y=>f6Z _ (zi.2 ⟨i,y,rfl⟩)
 have hdn:∀j,j<n->j∉ps->∀d,(rb cs j).dst=some d->d∉D:=fun j p hpZ d W hmZ=>by
  grind
 obtain⟨Inv,E⟩:∃Inv:Array Bool->Act->World->Prop,Inv=fun b a w=>∃(f:Nat)(H:List Nat)(s s1:St),Rl P S s1 a w/\Part (fun x=>∃i∈ps,¬b.getD i false=true/\(rb cs i).dst=some x) D s1 s/\TP (Pp n anZ ps cs f H) s/\
  (∀j,j<n->j∉ps->(b.getD j false=true ↔ j∈H))/\((List.range n).filter fun j=>!ps.contains j&& !H.contains j).length<=f/\
  (∀i∈ps,¬b.getD i false=true->(∀x∈(rb cs i).reads,look s.sl x=look stk.sl x)/\Bx stk s (rb cs i).op)/\(∀i∈ps,∀d,(rb cs i).dst=some d->look s.sl d=look stk.sl d):=⟨_,rfl⟩
 have fin:∀(b:Array Bool)(a:Act)(w:World),(∀i,i<n->b.getD i false=true)->Inv b a w->Q .normal a w:=fun b a w F h=>by
  rw[E]at h;obtain⟨f,H,s,s1,U,u,h3Z,h4Z,h5Z,h6Z,h7Z⟩:=h;have N:yw n anZ ps H=[]:=by
   unfold yw;refine List.filter_eq_nil_iff.2 fun j p hcZ=>?_
   simp only[cc,nx,List.contains_eq_mem,decide_eq_false_iff_not]at hcZ;have G:=Zi.1 p;exact hcZ.2.1 ((h4Z j G hcZ.1).1 (F j G))
  have t:Pp n anZ ps cs f H=.done:=by
   cases f with
   |zero=>rfl
   |succ f=>simp only[Pp,N,bw]
  rw[t]at h3Z;have v:∀x,¬∃i∈ps,¬b.getD i false=true/\(rb cs i).dst=some x:=fun x ⟨i,y,T,_⟩=>T (F i (A i y).1)
  refine hfin s a w h3Z (U.congr (fun x=>(u.sl x (v x)).symm) (fun L O=>(u.own fun i _=>v i).2 O) (fun q hqZ=>by rw[u.al];exact hqZ) u.bx.symm)
 have main:∀(fuel:Nat)(b:Array Bool)(a:Act)(w:World),b.size=n->((List.range n).filter fun i=>!b.getD i false).length<=fuel->
  (∀i,i<n->b.getD i false=true->∀j∈eh ops i,b.getD j false=true)->Inv b a w->wpAnyIn (fw r) 0 P .any ops Q fuel b a w:=by
  intro fuel;have t:∀(b:Array Bool)(i j:Nat),i<b.size->((b.setIfInBounds i true).getD j false=true ↔ (b.getD j false=true\/j=i)):=fun b i j y=>by
   by_cases h:i=j
   ·subst h;simp[y]
   ·rw[getD_set_ne false h]
    exact⟨.inl,fun v=>v.resolve_right (Wf h)⟩
  have rdy:∀(b:Array Bool)(i:Nat),b.size=n->(i∈Region.ready .any ops b ↔ i<n/\¬b.getD i false=true/\∀j∈eh ops i,b.getD j false=true):=fun b i hzZ=>by
   rw[mem_ready];constructor
   ·rintro⟨U,o,hoZ,u⟩
    have y:=(Nh.1 hoZ).1;refine⟨aa,?_,fun j p=>?_⟩
    ·rw[yo,hu aa]at U⊢
     simp at U⊢;exact U
    ·unfold eh at p
     rw[hoZ]at p;obtain⟨e,N,v⟩:=gx.1 p;split at v
     ·rename_i G;cases v;exact u e (by simpa using N) G
     ·cases v
   ·rintro⟨y,U,u⟩
    refine⟨?_,ops[i],hu aa,fun e N G=>u _ ?_⟩
    ·grind
    ·unfold eh
     rw[hu aa];exact gx.2 ⟨e,by simpa using N,by rw[if_pos G]⟩
  have stuck:∀b:Array Bool,b.size=n->Region.ready .any ops b=[]->∀i,i<n->b.getD i false=true:=fun b hzZ hrd i=>by
   induction i using Nat.strongRecOn<;>grind
  induction fuel with
  |zero=>
   intro b a w hzZ hcZ _ Y;have F:∀i,i<n->b.getD i false=true:=fun i y=>by
    grind
   refine⟨?_,fin b a w F Y⟩;cases v:Region.ready .any ops b with
   |nil=>rfl
   |cons i r=>
    have:=(rdy b i hzZ).1 (by rw[v];simp);exact absurd (F i this.1) this.2.1
  |succ fuel ihZ=>
   intro b a w hzZ hcZ hcl Y;refine⟨fun h=>fin b a w (stuck b hzZ h) Y,fun i y=>?_⟩;obtain⟨G,hnl,hdir⟩:=(rdy b i hzZ).1 y;have hcl':∀i,b.getD i false=true->∀j∈eh ops i,b.getD j false=true:=fun i'Z h=>by
    by_cases fa:i'Z<n
    ·exact hcl i'Z fa h
    ·rw[yo,Array.getElem?_eq_none aa]at h;cases h
   have hanc:∀x∈anZ.getD i [],b.getD x false=true:=by rw[<-han];exact ZB hcl' aa hdir
   have hz2:(b.setIfInBounds i true).size=n:=by simp[hzZ]
   have hcnt:((List.range n).filter fun j=>!(b.setIfInBounds i true).getD j false).length<=fuel:=by
    have e1:((List.range n).filter fun j=>!(b.setIfInBounds i true).getD j false)=((List.range n).filter fun j=>!b.getD j false).filter (· !=i):=by
     rw[om];apply Co;intro j _;have:=t b i j aa;by_cases R:j=i
     ·subst R
      have U:(b.setIfInBounds j true).getD j false=true:=this.2 (.inr rfl);rw[U];simp
     ·rw[getD_set_ne false (Wf R)];simp[R]
    have J:i∈(List.range n).filter fun i=>!b.getD i false:=Yc.2 ⟨Zi.2 G,by simpa using hnl⟩
    rw[e1];have:=DJ.2 (show∃x∈(List.range n).filter (fun j=>!b.getD j false),¬((x !=i)=true)from⟨i,J,ea⟩);omega
   have hcl2:∀i'Z,i'Z<n->(b.setIfInBounds i true).getD i'Z false=true->∀j∈eh ops i'Z,(b.setIfInBounds i true).getD j false=true:=fun i'Z hi' h j p=>by
    rw[t b i _ aa]at h⊢;rcases h with h|rfl
    ·exact .inl (hcl i'Z hi' h j p)
    ·exact .inl (hdir j p)
   rw[E]at Y;obtain⟨f,H,s,s1,U,u,h3Z,h4Z,h5Z,h6Z,h7Z⟩:=Y;obtain⟨o,hoZ,V⟩:=hco i (rb cs i) (M5 aa);have hND:∀x,(∃i∈ps,¬b.getD i false=true/\(rb cs i).dst=some x)->x∈D:=fun x ⟨j,p,_,e⟩=>(hDZ x).2 ⟨j,p,e⟩
   have hrN:∀x∈(rb cs i).reads,¬∃j∈ps,¬b.getD j false=true/\(rb cs j).dst=some x:=fun x B ⟨j,p,T,e⟩=>by
    rcases C i G x B j p with h|⟨_,h⟩
    ·exact h e
    ·exact T (hanc j h)
   by_cases v:i∈ps
   ·
    obtain⟨d,W⟩:=hdst i v;obtain⟨g1,g2Z⟩:=h6Z i v hnl;obtain⟨sxZ,hst,N⟩:=f7Z i v d W s1 (fun x B=>by rw[u.sl x (hrN x B)];exact g1 x B) ⟨fun hmZ=>by rw[u.bx];exact g2Z.1 hmZ,fun hm1 X=>by rw[u.bx,u.cells,u.al];exact g2Z.2 hm1 X⟩;refine wx hoZ (wA hcf hSZ V hst U fun a' w' hr''=>ihZ _ a' w' hz2 hcnt hcl2 ?_);have hr':Rl P S (s1.put d (look stk.sl d)) a' w':=hr''.congr (fun x=>(N.sl x).symm) N.ow N.al N.bx.symm;rw[E];have O:d∈D:=(hDZ d).2 ⟨i,v,W⟩;refine⟨f,H,s,_,hr',⟨fun x B=>?_,?_,?_,u.bx,u.no,fun x hxD B hmZ=>?_⟩,h3Z,fun j p hjp=>?_,h5Z,fun j p T=>?_,h7Z⟩
    ·by_cases e:d=x
     ·subst e
      simp only[St.put,me,if_true];exact(h7Z i v d W).symm
     ·simp only[St.put,me]
      rw[if_neg e];refine u.sl x fun⟨j,p,T,e2⟩=>B ⟨j,p,?_,e2⟩
      rw[t b i j aa];rintro(h|rfl)
      ·exact T h
      ·rw[W]at e2;cases e2;omega
    ·have:((s1.put d (look stk.sl d)).ow).filter (Gd D)=s1.ow.filter (Gd D):=by
      show(Va d s1.ow).filter (Gd D)=_;unfold Va;rw[om];apply Co;intro L _;cases L with
      |cell=>rfl
      |slot k=>
       simp only[Gd,Xd];by_cases e:k=d
       ·subst e;simp[O]
       ·simp[e]
     rw[this,u.ow]
    ·show Lb d s1.al=s.al
     rw[u.al];refine fx.2 fun q hqZ=>?_
     obtain⟨k1Z,k2Z⟩:=u.no q hqZ;have e1:q.1≠d:=fun e=>k1Z (e▸O)
     have e2:Xd d q.2=false:=by
      cases hq2:q.2 with
      |cell=>rfl
      |slot k=>
       rw[hq2,Jm]at k2Z;simp only[Xd,beq_eq_false_iff_ne,ne_eq];exact fun e=>k2Z (e▸O)
     simp[e1,e2]
    ·have X:.slot x∈Va d s1.ow:=hmZ
     obtain⟨m1Z,m2Z⟩:=Yc.1 X;by_cases e:x=d
     ·subst e;simp[Xd]at m2Z
     ·refine u.un x hxD (fun⟨j,p,T,e2⟩=>B ⟨j,p,?_,e2⟩) m1Z
      rw[t b i j aa];rintro(h|rfl)
      ·exact T h
      ·rw[W]at e2;cases e2;omega
    ·rw[t b i j aa,h4Z j p hjp]
     exact⟨fun h=>h.resolve_right fun e=>hjp (e▸v),.inl⟩
    ·exact h6Z j p fun h=>T ((t b i j aa).2 (.inl h))
   ·
    have N:i∉H:=fun h=>hnl ((h4Z i G v).2 h)
    have hrdy:i∈yw n anZ ps H:=by
     unfold yw;refine Yc.2 ⟨Zi.2 G,?_⟩;simp only[cc,nx,List.contains_eq_mem,decide_eq_false_iff_not,Ag,mq,decide_eq_true_eq];refine⟨v,N,fun x B=>?_⟩;by_cases hxp:x∈ps
     ·exact .inl hxp
     ·grind
    have hfp:0<f:=by
     have:i∈(List.range n).filter fun j=>!ps.contains j&& !H.contains j:=Yc.2 ⟨Zi.2 G,by simp[v,N]⟩
     have:=List.length_pos_of_mem this;omega
    obtain⟨f,rfl⟩:∃f',f=f'+1:=⟨f - 1,aa⟩;simp only[Pp]at h3Z;rcases hmemT _ s _ h3Z i hrdy with⟨s',k1Z,k2Z⟩|hdie
    case inr=>exact wx hoZ (hdies i s hdie s1 o a w _ (fun x B=>u.sl x (hrN x B)) (fun x B=>u.sl x fun⟨i'Z,hi',_,e⟩=>B i'Z hi' e) u.bx u.cells V U)
    have O:∀x,(rb cs i).dst=some x->x∉D:=fun x B=>hdn i G v x B
    obtain⟨s1',k3Z,k4Z⟩:=frame u hND O hrN (fun x B hxD=>by
     obtain⟨j,p,e⟩:=(hDZ x).1 hxD;rcases hali i G with h|h
     ·exact v h
     ·rw[B]at h;simp only[Ag,bne_iff_ne,ne_eq]at h;exact h j p e) k1Z
    refine wx hoZ (wA hcf hSZ V k3Z U fun a' w' hr'=>ihZ _ a' w' hz2 hcnt hcl2 ?_);rw[E];have hNe:(fun x=>∃j∈ps,¬(b.setIfInBounds i true).getD j false=true/\(rb cs j).dst=some x)=fun x=>∃j∈ps,¬b.getD j false=true/\(rb cs j).dst=some x:=by
     funext x;apply propext;constructor
     ·rintro⟨j,p,T,e⟩
      exact⟨j,p,fun h=>T ((t b i j aa).2 (.inl h)),e⟩
     ·grind
    refine⟨f,i::H,s',s1',hr',by rw[hNe];exact k4Z,k2Z,fun j p hjp=>?_,?_,fun j p T=>?_,fun j p d W=>?_⟩
    ·rw[t b i j aa,h4Z j p hjp,wb]
     exact Or.comm
    ·have e1:((List.range n).filter fun j=>!ps.contains j&& !(i::H).contains j)=((List.range n).filter fun j=>!ps.contains j&& !H.contains j).filter (· !=i):=by
      rw[om];apply Co;intro j _;by_cases R:j=i
      ·subst R;simp
      ·simp[R]
     have hmem2:i∈(List.range n).filter fun j=>!ps.contains j&& !H.contains j:=Yc.2 ⟨Zi.2 G,by simp[v,N]⟩
     rw[e1];have:=DJ.2 (show∃x∈(List.range n).filter (fun j=>!ps.contains j&& !H.contains j),¬((x !=i)=true)from⟨i,hmem2,ea⟩);omega
    ·have hl0:¬b.getD j false=true:=fun h=>T ((t b i j aa).2 (.inl h))
     obtain⟨g1,g2Z⟩:=h6Z j p hl0;refine⟨fun x B=>?_,fun hmZ=>?_,fun hm1 X=>?_⟩
     ·grind [PS]
     ·obtain⟨z,hzZ⟩:=g2Z.1 hmZ
      obtain⟨z2Z,hz2⟩:=i4 (o:=rb cs i) (by
       grind) k1Z
      exact⟨z++z2Z,by rw[hz2,hzZ,Ac]⟩
     ·obtain⟨z1Z,z2Z,z3⟩:=g2Z.2 hm1 X
      grind [Ht,zg7]
    ·rw[PS k1Z d fun e=>O d e ((hDZ d).2 ⟨j,p,W⟩)]
     exact h7Z j p d W
 rw[hnZ];refine main n _ a w ea (Vf (List.length_filter_le _ _) ea) (fun i y h=>by simp[y]at h) ?_;have hnot:∀i,¬(Array.replicate n false).getD i false=true:=fun i h=>by
  by_cases p:i<n<;>simp[p]at h
 rw[E];refine⟨n,[],stk,Z,hr,⟨fun x B=>?_,f4Z.symm,by rw[f2Z,hal],f1Z.symm,(fun q hqZ=>by rw[f2Z]at hqZ;cases hqZ),fun x hxD B=>?_⟩,I,fun j _ _=>⟨fun h=>absurd h (hnot j),fun h=>by cases h⟩,Vf (List.length_filter_le _ _) ea,fun i y _=>⟨fun x B=>rfl,fun _=>⟨[],ea⟩,fun _ _=>⟨rfl,rfl,fun q hqZ=>by rw[f2Z]at hqZ;cases hqZ⟩⟩,fun i y d W=>rfl⟩
 ·refine(f5Z x fun hmZ=>B ?_).symm
  obtain⟨i,y,e⟩:=(hDZ x).1 hmZ;exact⟨i,y,hnot i,e⟩
 ·grind
def PP{qs}(k:Gb P Γ cf)(u:Good Γ S){ops}{ali}{cs}{ps live}{Q}{d stk F}(p:Qy qs ops cs ps=true)
 (n:∀(j:Nat)(c),cs[j]?=some c->∃o,ops[j]?=some o/\Ho P S.nt ops ali o c) (i:d.al=[]) (e:bg cf (ps.map (rb cs)) d=some stk) (b:yd cf live (Pp ops.size (Gl ops) ps cs ops.size []) stk=some F) (hr:Rl P S d a w)
 (q:∀s a' w',s.Gf live=F->Rl P S s a' w'->Q .normal a' w'):wpAnyIn (fw r) 0 P .any ops Q ops.size (Array.replicate ops.size false) a w:=
 J2 k u p n i e (TP:=fun t s=>yd cf live t s=some F) (Dies:=fun _ _=>False) (fun g s l h j v=>.inl (oQ l h j v)) (fun s a w h hr=>q s a w (by grind [yd]) hr) (fun _ _ h=>h.elim) b hr
end
def Iq(o:Oper):Option Nat:=match o.op with
 | .call {callee:=.builtin .append,args,.. }=>match args.toList with
   | .tmp t::_=>some t
   |_=>none
 |_=>none
def xy(P:Program)(nt:Nat)(ops:Array Oper)(a:Bool):Option (List Ta×List Ta):=
 (ops.toList.mapM (ji P nt ops (ops.toList.filterMap Iq))).bind fun cs=>
   if a then((List.range' 1 cs.length).find? fun k=>Py ops ((List.zipWith Sq ops.toList cs).take k++cs.drop k) k).map fun k=>((List.zipWith Sq ops.toList cs).take k,cs.drop k)else some ([],cs)
def mI(qs:List FuncId)(ops:Array Oper)(cs:List Ta):List Nat:=
 let a:=Gl ops
 (List.range cs.length).foldl (fun ps i=>if Ht qs (rb cs i).op&&((rb cs i).dst.isSome&&((eh ops i).all (fun j=>ps.contains j)&&
   ((!Zv (rb cs i).op||(List.range cs.length).all fun j=>!FB (rb cs j).op||(ps.contains j||(a.getD j []).contains i))&&((!FA qs (rb cs i).op||(List.range cs.length).all fun j=>i==j||(!dB (rb cs j).op||(FA qs (rb cs j).op||(a.getD j []).contains i)))&&
   ((List.range cs.length).all fun j=>i==j||((rb cs j).dst !=(rb cs i).dst&&(ps.contains j||((a.getD j []).contains i||(rb cs i).reads.all fun s=>(rb cs j).dst !=some s))))))))then ps++[i]else ps) []
def pH(qs:List FuncId)(ops:Array Oper)(c:Ta):Ta:=match c.op with
 | .loadA y=>if(ops.toList.any fun o=>match o.op with
  | .call {callee:=.value (.func f),.. }=>qs.contains (f+hb)
  |_=>false)=true then{c with op:=.loadM y}else c
 |_=>c
theorem ZS{P}{nt}{qs}{ops}{ali}{o}{c}(h:ji P nt ops ali o=some c):Ho P nt ops ali o (pH qs ops c):=by
 unfold pH;split
 ·rename_i y e
  split
  ·right;left
   refine⟨y,rfl,?_⟩;obtain⟨dst,g,op⟩:=c
   grind
  ·exact .inl h
 ·exact .inl h
def Js(P:Program)(qs:List FuncId)(nt:Nat)(ops:Array Oper):Option (List Ta×BT):=
 ((ops.toList.mapM (ji P nt ops (ops.toList.filterMap Iq))).map fun cs=>cs.map (pH qs ops)).bind fun cs=>
   if Qy qs ops cs (mI qs ops cs)then some ((mI qs ops cs).map (rb cs),Pp ops.size (Gl ops) (mI qs ops cs) cs ops.size [])else none
def P5(qs:List FuncId)(ops:Array Oper):Bool:=ops.toList.any fun o=>match o.op with
 | .call {callee:=.value (.func f),.. }=>qs.contains f||qs.contains (f+hb)
 | .alloc t=>qs.contains (t+hb+hb)
 |_=>false
def yD(P:Program)(qs:List FuncId)(nt:Nat)(ops:Array Oper)(a:Bool)(l:List Nat):Option ka:=
 if(a&&P5 qs ops)=true then(Js P qs nt ops).map fun q=>.jg l q.1 q.2 else match xy P nt ops a with
  |some q=>some (.kb l q.1 q.2)
  |none=>if a then(Js P qs nt ops).map fun q=>.jg l q.1 q.2 else none
def Tt:ka:=.cond (.c .Ad) .skip .skip
theorem sp{cf}{n}{st}{r}(h:oa cf n Tt st=some r):False:=by
 grind [Tt,oa,X.ev]
def Ud(P:Program)(qs:List FuncId)(f nt:Nat):Nat->List (List Nat)->Code->Option (ka×List (List Nat))
 |_,lv,.skip=>some (.skip,lv)
 |_,l::lv,.region _ ops d=>match yD P qs nt ops d l with
  |some c=>some (c,lv)
  |none=>some (Tt,lv)
 |k,lv,.seq a b=>(Ud P qs f nt k lv a).bind fun q=>(Ud P qs f nt (k+(Vb a).length) q.2 b).map fun r=>(.seq q.1 r.1,r.2)
 |k,lv,.cond c a b=>(xb c).bind fun x=>(Ud P qs f nt k lv a).bind fun q=>(Ud P qs f nt (k+(Vb a).length) q.2 b).map fun r=>(.cond x q.1 r.1,r.2)
 |k,lv,.block id b=>(Ud P qs f nt k lv b).map fun q=>(.block id q.1,q.2)
 |k,lv,.scope b=>Ud P qs f nt k lv b
 |_,lv,.label _=>some (.skip,lv)
 |k,l::lv,.loop b=>(Ud P qs f nt k lv b).map fun q=>(.loop l q.1,q.2)
 |k,l::lv,.rangeFunc g _ _ _=>(xb g).map fun x=>(.range f k l x,lv)
 |_,l::lv,.exit id=>some (.exit id l,lv)
 |_,l::lv,.ret=>some (.ret l,lv)
 |_,lv,_=>some (Tt,lv)
def zD(P:Program)(qs:List FuncId)(f nt k:Nat)(lv:List (List Nat))(q:Operand×Array Tmp×Code×Code):Option (List Nat×ka×ka):=
 if q.2.1.toList.all (·<nt)then(Ud P qs f nt (k+1) lv q.2.2.1).bind fun c=>(Ud P qs f nt (k+1+(Vb q.2.2.1).length) c.2 q.2.2.2).map fun d=>(q.2.1.toList,c.1,d.1)else none
def Ru(P:Program)(qs:List FuncId)(f nt:Nat):Nat->List (List (List Nat))->List (Operand×Array Tmp×Code×Code)->Option (List (List Nat×ka×ka))
 |_,_,[]=>some []
 |k,lv::yr,q::r=>(zD P qs f nt k lv q).bind fun c=>(Ru P qs f nt (k+1) yr r).map (c::·)
 |_,[],_::_=>none
def Lm(P:Program):ResultVar->Option (Sum Nat (Nat×Bool×Nat))
 | .tmp t=>some (.inl t)
 | .cell t ty=>(Oe P ty).bind fun g=>(Tg P ty).bind fun n=>if g=true\/n=1 then some (.inr (t,g,n))else none
structure Lv where
 main:List (List Nat)
 oo:List (List (List Nat))
 qs:List FuncId
def Km(P:Program)(lv:Lv)(f:FuncId):Option na:=match P.funcs[f]? with
 |some fn=>match fn.body with
  |some b=>if fn.name != "runtime.NumGoroutine" then(Ud P lv.qs f fn.ntmps 0 lv.main b).bind fun q=>(Ru P lv.qs f fn.ntmps 0 lv.oo (Vb b)).bind fun a=>(fn.results.toList.mapM (Lm P)).map fun rs=>⟨fn.ntmps,rs,q.1,a⟩else none
  |none=>none
 |none=>none
theorem tO{P}{qs}{f nt}:∀{l}{k}{yr}{r},Ru P qs f nt k yr l=some r->∀(j)(c),r[j]?=some c->∃q lv,l[j]?=some q/\zD P qs f nt (k+j) lv q=some c
 |[],k,yr,r,h,j,c,a=>by grind [Ru]
 |q::l,k,[],r,h,j,c,a=>by grind [Ru]
 |q::l,k,lv::yr,r,h,j,c,a=>by
  obtain⟨e,g,h⟩:=qb h;obtain⟨r',b,rfl⟩:=qm h;cases j with
  |zero=>grind
  |succ j=>
   obtain⟨o,d,i,n⟩:=tO b j c la
   grind
def Out.ex:Out->Exit
 | .normal=>.normal
 | .exit id=>.exit id
 | .ret=>.ret
section
variable {P:Program} {qs:List FuncId} {w w':World} {r:Option Nat} {Fr Fr':Nat→Nat} {β β':List Nat} {T:List Deferred} {base nt:Nat} {M:Nat→Prop} {w0:World} {F0:Nat→Nat} {st st':St} {a a':Act} {cf:Callee} {Γ:ue} {S:S0}
mutual
theorem Vz{nb:Nat}:∀(p:PV)(v:Value),p.low nb=true->Rd w Fr β p v->Rd w Fr (β.take nb) p v
 | .Ad,_,_,_=>by simp[Rd]
 | .flat u,v,_,k=>by grind [Rd]
 | .ga n cs,v,h,k=>by
   obtain⟨b,d,a,e,i⟩:=k;refine⟨b,d,a,e,i.imp id ?_⟩;rintro⟨g,o,vs,j,hr,hs,c⟩;exact⟨g,o,vs,j,hr,Lp cs vs h hs,c⟩
 | .agg cs,v,h,k=>by
   obtain⟨vs,a,hs,c⟩:=k;exact⟨vs,a,Lp cs vs h hs,c⟩
 | .Jc cs,v,h,k=>by
   obtain⟨vs,a,hs⟩:=k;exact⟨vs,a,Lp cs vs h hs⟩
 | .ptr b o,v,h,k=>by
   grind [Rd,PV.low]
 | .xd cs,v,h,k=>by
   obtain⟨g,o,vs,a,hr,hs,c⟩:=k;exact⟨g,o,vs,a,hr,Lp cs vs h hs,c⟩
 | .cb f cs,v,h,k=>by
   obtain⟨vs,a,hs⟩:=k;exact⟨vs,a,Lp cs vs h hs⟩
 | .tag f cs,v,h,k=>by
   obtain⟨vs,a,hs⟩:=k;exact⟨vs,a,Lp cs vs h hs⟩
 | .Oa b,v,h,k=>by
   grind [Rd,PV.low]
 | .we b d n,v,h,k=>by
   grind [Rd,PV.low]
 | .lp _ _ _ _ _,v,h,k=>by grind [Rd]
theorem Lp{nb:Nat}:∀(ps:List PV)(vs:List Value),Ia nb ps=true->ra w Fr β ps vs->ra w Fr (β.take nb) ps vs
 |[],vs,_,k=>by grind [ra]
 |p::ps,vs,h,k=>by
  simp only[Ia,cc]at h;obtain⟨v,r,a,e,i⟩:=k;exact⟨v,r,a,Vz p v h.1 e,Lp ps r h.2 i⟩
end
theorem RS{nb}:∀(live:List Nat)(a)(i),Ia nb a=true->(look (live.zip a) i).low nb=true
 |[],_,i,_=>by rfl
 |_::_,[],i,_=>by rfl
 |j::live,p::a,i,h=>by
  simp only[Ia,cc]at h;rw[List.zip_cons_cons,me];split
  ·exact h.1
  ·exact RS live a i h.2
theorem Dk.low{nb}{cs}{g}(h:Dk P w Fr β cs g)(o:Ia nb cs.2=true):Dk P w Fr (β.take nb) cs g:=by
 rcases h with⟨vs,e,b,c,d⟩|⟨f,k,s,live,a,j,r,b,c,d,l,n⟩
 ·exact .inl ⟨vs,e,b,Lp cs.2 vs o c,d⟩
 ·refine .inr ⟨f,k,s,live,a,j,r,b,c,d,l,fun i=>Vz _ _ (RS live a i ?_) (n i)⟩
  grind [Ia,PV.low]
theorem Rel.cut(R:Rel P T base M w0 F0 nt st a w Fr β){nb}(y:∀i,look st'.sl i=.Ad\/(look st'.sl i=look st.sl i/\(look st.sl i).low nb=true))(n:st'.bx=st.bx.take nb)(o:∀cs∈st.bx.take nb,Ia nb cs.2=true)
 (k:∀L∈st'.ow,L∈st.ow/\(∀i,L=.slot i->look st'.sl i=look st.sl i)/\(∀b j,L=.cell b j->b<nb)) (F:st'.al=[]):Rel P T base M w0 F0 nt st' a w Fr (β.take nb):=by
 have d:∀L∈st'.ow,∀v,Ga a w (β.take nb) L=some v->Ga a w β L=some v:=fun L e v h=>by
  cases L<;>grind [Ga]
 have B:∀L∈st'.ow,∀v,Ga a w β L=some v->Ga a w (β.take nb) L=some v:=fun L e v h=>by
  cases L<;>grind [Ga]
 have J:∀L∈st'.ow,∀p,ab st L=some p->ab st' L=some p:=fun L e p h=>by
  cases L<;>grind [ab]
 refine⟨fun i=>?_,R.nt,R.df,⟨by rw[n,Ue,Ue,R.bx.1],fun b cs c=>?_⟩,R.nd.sublist (List.take_sublist _ _),fun L e=>?_,fun L e r l x v D g z A=>R.sep L (k L e).1 r (k r l).1 x v D g (d L e v z) (d r l D A),fun L e v g z u I=>R.out L (k L e).1 v g (d L e v z) u (nB I),(fun q K=>by grind),fun g u=>?_,R.old,R.ge,R.os,R.tape,R.output⟩
 ·rcases y i with h|⟨C,t⟩
  ·grind [Rd]
  ·rw[C];exact Vz _ _ t (R.sl i)
 ·rw[n]at c
  have G:b<nb:=by
   have:=(qg c).1;rw[Ue]at this;omega
  have H:=o cs (di c);rw[lx G]at c;obtain⟨g,C,t,E⟩:=R.bx.2 b cs c;exact⟨g,la,t,E.low H⟩
 ·obtain⟨v,p,E,G,H⟩:=R.own L (k L e).1
  grind
 ·refine R.may g (u.imp nB ?_)
  grind
def Rel.Mm(R:Rel P T base M w0 F0 nt st a w Fr β)(j:∀i,look st'.sl i=.Ad\/look st'.sl i=look st.sl i)(n:st'.bx=st.bx)(b:∀L∈st'.ow,L∈st.ow/\∀i,L=.slot i->look st'.sl i=look st.sl i)(l:st'.al=[]):Rel P T base M w0 F0 nt st' a w Fr β:=by
 have e:∀L∈st'.ow,ab st' L=ab st L:=fun L c=>by
  cases L<;>grind [ab]
 exact⟨fun i=>by
  rcases j i with h|h
  ·grind [Rd]
  ·rw[h];exact R.sl i,R.nt,R.df,by grind [bx],R.nd,fun L c=>by rw[e L c];exact R.own L (b L c).1,fun L c k d=>R.sep L (b L c).1 k (b k d).1,fun L c=>R.out L (b L c).1,(fun q t=>by grind),
  fun g o=>R.may g (o.imp id fun⟨L,p,r⟩=>⟨L,(b L p).1,r⟩),R.old,R.ge,R.os,R.tape,R.output⟩
theorem Tz(sl):∀(l:List Nat)(i),look (l.map fun j=>(j,look sl j)) i=if i∈l then look sl i else .Ad
 |[],i=>rfl
 |j::l,i=>by
  rw[Xb,me,Tz sl l i]
  grind
def wS{S:S0}(h:Le S.sw S.sF S.sβ w Fr β):S.sβ.length<=β.length:=by
 rcases Oh β.length S.sβ.length with a|a
 ·have:=h.box β.length _ (qe a)
  grind
 omega
theorem Rl.Jr(h:Rl P S st a w)(live){nb}(p:S.sβ.length<=nb):Rl P S (st.Jr live nb) a w:=by
 obtain⟨Fr,β,R,d⟩:=h;have v:∀i,look (st.Jr live nb).sl i=if i∈live then look st.sl i else .Ad:=fun i=>Tz st.sl live i
 have c:∀L,L∈(st.Jr live nb).ow->L∈st.ow/\(∀i,L=.slot i->i∈live)/\∀b j,L=.cell b j->b<(trim nb (live.map (look st.sl)) st.bx).length:=fun L k=>by
  grind [St.Jr]
 by_cases n:(trim nb (live.map (look st.sl)) st.bx)=st.bx
 ·refine⟨Fr,β,R.Mm (fun i=>?_) n (fun L k=>⟨(c L k).1,fun i e=>?_⟩) rfl,d⟩
  ·grind
  grind
 ·have u:Ia nb (live.map (look st.sl))=true/\(st.bx.take nb).all (fun q=>Ia nb q.2)=true/\trim nb (live.map (look st.sl)) st.bx=st.bx.take nb:=by
   unfold trim at n⊢;split at n
   ·grind
   ·grind
  obtain⟨A,x,y⟩:=u;have r:∀(l:List Nat),Ia nb (l.map (look st.sl))=true->∀i∈l,(look st.sl i).low nb=true:=by
   intro l
   induction l with
   |nil=>simp
   |cons j l z=>
    grind [Ia]
  refine⟨Fr,β.take nb,R.cut (nb:=nb) (fun i=>?_) y (fun cs o=>Ag.1 x cs o) (fun L k=>⟨(c L k).1,fun i e=>?_,fun b j e=>?_⟩) rfl,⟨d.size,d.fr,d.cell,fun i g t=>?_,d.lp⟩⟩
  ·grind
  ·grind
  ·grind
  ·have:i<nb:=Ug (qg t).1 p
   rw[lx this];exact d.box i g t
theorem Rl.only(h:Rl P S st a w)(live){nb}(b:S.sβ.length<=nb):Rl P S (st.only live nb) a w:=(h.ik live).Jr live b
theorem zr{α γ:Type}{f}:∀{l:List α}{r},l.mapM f=some r->r.length=l.length/\∀(j:Nat)(c:γ),r[j]?=some c->∃o,l[j]?=some o/\f o=some c
 |[],r,h=>by grind
 |x::l,r,h=>by
  rw[kq]at h;obtain⟨y,d,h⟩:=qb h;obtain⟨s,hs,h⟩:=qb h;cases h;obtain⟨a,b⟩:=zr hs
  grind
theorem zdo(J:P.follows .mixedOrders=true)(e:Gb P Γ cf)(A:Good Γ S){id}{ops}{b}{q}(d:xy P S.nt ops b=some q){stk stF}(z:tg cf q.1 st=some stk)(D:Hc cf q.2 stk=some stF)
 (v:st.al=[]) (hr:Rl P S st a w) {Q} (E:∀a' w',Rl P S stF a' w'->Q .normal a' w'):(Code.region id ops b).wpIn (fw r) 0 P Q a w:=by
 obtain⟨cs,x,d⟩:=qb d;obtain⟨C,B⟩:=zr x;have g:∀(j:Nat)(c:Ta),cs[j]?=some c->∃o,ops[j]?=some o/\ji P S.nt ops (ops.toList.filterMap Iq) o=some c:=fun j c i=>by
  grind
 cases b with
 |false=>
  simp only[Ha,if_false,Pb]at d;subst d;simp only[tg,Pb]at z;subst z;refine wpIn_region ?_;have:=tV (r:=r) (rest:=[]) e A (Q:=Q) cs 0 st a w (fun j c i=>by rw[Zc];exact g j c i) D hr (fun a' w' n=>by grind [wpOpsIn])
  grind [List.range_eq_range']
 |true=>
  obtain⟨k,G,rfl⟩:=qm d;have l:=List.find?_some G;have p:(List.zipWith Sq ops.toList cs).length=cs.length:=by rw[List.length_zipWith];omega
  have H:k<=cs.length:=by
   have u:=l;unfold Py at u;simp only[cc,decide_eq_true_eq]at u;have t:=u.1.1.1.1.1;rw[Da,Ue,fc,p]at t;omega
  have y:((List.zipWith Sq ops.toList cs).take k).length=k:=by rw[Ue,p];omega
  have h:∀(j:Nat)(c:Ta),((List.zipWith Sq ops.toList cs).take k++cs.drop k)[j]?=some c->∃o,ops[j]?=some o/\Ho P S.nt ops (ops.toList.filterMap Iq) o c:=fun j c i=>by
   by_cases t:j<k
   ·grind [Q1]
   ·rw[Af aa,y,lg,show k+(j - k)=j by omega]at i
    obtain⟨o,u,F⟩:=g j c i;exact⟨o,u,.inl F⟩
  refine wpIn_region_any J ?_;have n:Rl P S st a {w with drawn:=w.drawn+1}:=by
   obtain⟨Fr,β,R,I⟩:=hr;have F:Below w.heap.size w {w with drawn:=w.drawn+1}:=⟨rfl,rfl,rfl,Aa _,fun _ _=>rfl⟩;obtain⟨u,t⟩:=R.grow F (Fr':=Fr) (fun _ _=>rfl);exact⟨Fr,β,u,I.trans t⟩
  refine K2 e A l la h v (stk:=stk) (stF:=stF) ?_ ?_ n E
  ·grind
  grind
def zdk(B:P.follows .mixedOrders=true)(g:Gb P Γ cf)(y:Good Γ S){id}{ops}{qs}{q}(b:Js P qs S.nt ops=some q){live}{stk F}(u:bg cf q.1 st=some stk)(v:yd cf live q.2 stk=some F)
 (e:st.al=[]) (hr:Rl P S st a w) {Q} (x:∀s a' w',s.Gf live=F->Rl P S s a' w'->Q .normal a' w'):(Code.region id ops true).wpIn (fw r) 0 P Q a w:=by
 obtain⟨cs,d,b⟩:=qb b;obtain⟨t,h,rfl⟩:=qm d;obtain⟨o,n⟩:=zr h;split at b
 case isFalse=>cases b
 rename_i k;cases b;refine wpIn_region_any B ?_;have l:Rl P S st a {w with drawn:=w.drawn+1}:=by
  obtain⟨Fr,β,R,A⟩:=hr;have z:Below w.heap.size w {w with drawn:=w.drawn+1}:=⟨rfl,rfl,rfl,Aa _,fun _ _=>rfl⟩;obtain⟨p,i⟩:=R.grow z (Fr':=Fr) (fun _ _=>rfl);exact⟨Fr,β,p,A.trans i⟩
 exact PP g y (ali:=ops.toList.filterMap Iq) k (fun j c C=>by
  grind [ZS]) e u v l x
theorem mE{live}:∀(t)(s F),yd cf live t s=some F->F.al=[]
 | .done,s,F,h=>by simp only[yd,Pb]at h;subst h;rfl
 | .one o t,s,F,h=>by
   obtain⟨s',_,a⟩:=qb h;exact mE t s' F a
 | .two o t r,s,F,h=>by
   exact mE r s F (RA h).2
theorem iQ{body}{live}{nb}(c:∀st o st',body st=some (o,st')->st.al=[]->st'.al=[]):∀(n)(st)(o)(st'),Cc body live nb n st=some (o,st')->st.al=[]->st'.al=[]
 |0,_,_,_,h,_=>by cases h
 |n+1,st,o,st',h,b=>by
  obtain⟨⟨o1,s1⟩,d,a⟩:=qb h;cases o1 with
  |normal=>exact iQ c n _ o st' a rfl
  |exit id=>grind
  |ret=>grind
theorem T3{f k}{live}{g}{o}(h:Ok cf f k live g st=some (o,st'))(a:st.al=[]):st'.al=[]:=by
 unfold Ok at h
 grind [Option.bind_eq_some_iff,Lc]
theorem Tm{n}:∀(c)(st)(o)(st'),oa cf n c st=some (o,st')->st.al=[]->st'.al=[]
 | .skip,st,o,st',h,d=>by cases h;exact d
 | .kb live pre j,st,o,st',h,d=>by
   obtain⟨s,_,h⟩:=qm h;cases h;rfl
 | .jg live pre t,st,o,st',h,d=>by
   grind [oa,Option.map_eq_some_iff,Option.bind_eq_some_iff,mE]
 | .seq a b,st,o,st',h,d=>by
   obtain⟨⟨o1,s1⟩,i,e⟩:=qb h;have l:=Tm a st o1 s1 i d;cases o1 with
   |normal=>exact Tm b s1 o st' e l
   |exit id=>grind
   |ret=>grind
 | .cond x a b,st,o,st',h,d=>by
   simp only[oa]at h;split at h
   ·split at h
    ·exact Tm a st o st' h d
    ·exact Tm b st o st' h d
   grind
 | .block id b,st,o,st',h,d=>by
   obtain⟨⟨o1,s1⟩,i,e⟩:=qm h;have l:=Tm b st o1 s1 i d;cases o1 with
   |normal=>cases e;rfl
   |exit j=>
    dsimp only at e;split at e
    ·cases e;rfl
    grind
   |ret=>grind
 | .loop live b,st,o,st',h,_=>by
   exact iQ (fun st o st' h d=>Tm b st o st' h d) n _ o st' h rfl
 | .range f k live g,st,o,st',h,d=>by
   grind [oa,T3]
 | .exit id live,st,o,st',h,d=>by cases h;rfl
 | .ret live,st,o,st',h,d=>by cases h;rfl
theorem Rl.sr(h:Rl P S st a w)(live):Rl P S (st.sr live) a w:=by
 obtain⟨Fr,β,R,g⟩:=h;have k:∀i,look (st.sr live).sl i=if i∈live then look st.sl i else .Ad:=fun i=>Tz st.sl live i
 refine⟨Fr,β,R.Mm (fun i=>?_) rfl (fun L d=>?_) rfl,g⟩
 ·grind
 ·simp only[St.sr,We,zi,Yc,decide_eq_true_eq]at d
  rcases d with⟨j,⟨b,c⟩,rfl⟩|⟨b,c⟩
  ·grind
  ·exact⟨b,fun i e=>by subst e;cases c⟩
theorem Rl.Gf(h:Rl P S st a w)(live):Rl P S (st.Gf live) a w:=(h.ik live).sr live
theorem TS{nb}:∀(sl)(i),Ia nb (sl.map (·.2))=true->(look sl i).low nb=true
 |[],i,_=>by rfl
 |(j,p)::r,i,h=>by
  simp only[Xb,Ia,cc]at h;rw[me];split
  ·exact h.1
  ·exact TS r i h.2
theorem Rl.Ei(h:Rl P S st a w){nb}(o:S.sβ.length<=nb):Rl P S (st.Ei nb) a w:=by
 obtain⟨Fr,β,R,d⟩:=h;by_cases k:(trim nb (st.sl.map (·.2)) st.bx)=st.bx
 ·refine⟨Fr,β,R.Mm (fun i=>.inr rfl) k (fun L l=>?_) rfl,d⟩
  grind [St.Ei]
 ·have r:Ia nb (st.sl.map (·.2))=true/\(st.bx.take nb).all (fun q=>Ia nb q.2)=true/\trim nb (st.sl.map (·.2)) st.bx=st.bx.take nb:=by
   unfold trim at k⊢;split at k
   ·grind
   ·grind
  obtain⟨u,v,x⟩:=r;have t:(st.bx.take nb).length≠st.bx.length:=fun e=>k (by
   grind [List.take_of_length_le])
  have c:∀L,L∈(st.Ei nb).ow->L∈st.ow/\∀b j,L=.cell b j->b<nb:=fun L l=>by
   grind [St.Ei]
  refine⟨Fr,β.take nb,R.cut (nb:=nb) (fun i=>.inr ⟨rfl,TS _ i u⟩) x (fun cs n=>Ag.1 v cs n) (fun L l=>⟨(c L l).1,fun i _=>rfl,(c L l).2⟩) rfl,⟨d.size,d.fr,d.cell,fun i g p=>?_,d.lp⟩⟩;have:i<nb:=Ug (qg p).1 o;rw[lx this];exact d.box i g p
theorem u3{fr}{tmps}{ps}{az b}(c:∀l,r=some l->∃d,w.heap[l]?=some (Obj.loop d)):
 ∃l mk a df,(Instr.enterLoop fr tmps ps az b r).run P w=.ok (l,mk) a/\Below w.heap.size w a/\w.heap.size<=l/\a.heap[l]?=some (.loop {state:=.ready,pending:=none,fn:=fr,tmps,params:=ps,assign:=az,body:=b,defers:=df})/\
  (mk=[]\/∃D,mk=[mark D]/\w.heap.size<=D/\a.heap[D]?=some (.deferred (some []))):=by
 cases r with
 |none=>
  refine⟨_,_,_,w.heap.size,run_enterLoop_outer fr tmps ps az b,(Iu w _).alloc ea _,aa,?_,.inr ⟨w.heap.size,rfl,Aa _,?_⟩⟩
  ·grind [World.alloc_heap_new,World.size_alloc]
  grind [Below,Iu,World.alloc_heap_new]
 |some g=>
  obtain⟨r0,e⟩:=c g rfl;refine⟨w.heap.size,[],w.alloc (.loop {state:=.ready,pending:=none,fn:=fr,tmps,params:=ps,assign:=az,body:=b,defers:=r0.defers}),r0.defers,?_,Iu w _,Aa _,World.alloc_heap_new w _,.inl rfl⟩;unfold Instr.enterLoop;simp only[Fb,run_newObj_alloc,Result.andThen,qh,run_getLoop e]
theorem zcY(hcf:Gb P Γ cf)(hSZ:Good Γ S){f k}{live}{g}{ps}{az b}{y}(hyZ:xb g=some y)(Y:ol P f k=some (g,ps,az,b))(hfn:∃fn,P.funcs[f]?=some fn/\S.nt=fn.ntmps)
 (hrd:∀l,r=some l->∃V,S.sw.heap[l]?=some (Obj.loop V)) {o} (x:Ok cf f k live (y.ev st.sl) st=some (o,st')) (hr:Rl P S st a w) {Q} (hKZ:∀a' w',Rl P S st' a' w'->Q o.ex a' w'):(Code.rangeFunc g ps az b).wpIn (fw r) 0 P Q a w:=by
 obtain⟨Fr,β,R,hlZ⟩:=hr;unfold Ok at x;split at x
 case h_2=>cases x
 rename_i h Ya e1;split at x
 ·cases x
 rename_i hne;obtain⟨s2Z,X,p⟩:=qb x;have hxZ:=dc R.sl hyZ;rw[e1]at hxZ;obtain⟨A,hxv,hcr⟩:=hxZ;refine wpIn_rangeFunc fun fr _=>?_
 obtain⟨l,mk,H,df,k1Z,hbZ,k2Z,k3Z,k4Z⟩:=u3 (P:=P) (w:=w) (fr:=fr) (tmps:=a.tmps) (ps:=ps) (az:=az) (b:=b) (r:=r) fun l0Z e=>by
  obtain⟨V,q⟩:=hrd l0Z e;exact hlZ.lp _ _ q
 obtain⟨R1Z,u⟩:=R.TB (Fr':=kf Fr l 0) (l:=l) (cs:=(0,[.lp f k .ready live (live.map (look st.sl))])) hbZ (fun g h=>Sr (Ug h k2Z)) k2Z (by simp[kf]) fun u=>.inr ⟨f,k,.ready,live,_,rfl,_,k3Z,by
  obtain⟨fn,W,q2Z⟩:=hfn;exact⟨fn,W,by rw[<-q2Z];exact R.nt⟩,⟨g,Y⟩,⟨rfl,rfl⟩,fun i=>by
  have:look (live.zip (live.map (look st.sl))) i=if i∈live then look st.sl i else .Ad:=by
   rw[<-Tz st.sl live i];congr 1;rw[List.zip_map_right];clear X p x hKZ
   induction live with
   |nil=>rfl
   |cons j l n=>grind
  rw[this];split
  ·exact(R.sl i).mono u
  ·simp[Rd]⟩
 have Z:st.bx.length=β.length:=R.bx.1;have M:Rel P S.T S.base S.M S.w0 S.F0 S.nt {st with bx:=st.bx++[(0,[.lp f k .ready live (live.map (look st.sl))])]} {a with defers:=mk++a.defers} H (kf Fr l 0) (β++[l]):=by
  rcases k4Z with rfl|⟨D,rfl,t,v⟩
  ·exact R1Z
  ·refine R1Z.uX (Vf R.ge t) v fun n e J=>?_
   obtain⟨z,C,G,I⟩:=R.df
   grind [nH]
 have O:(β++[l])[st.bx.length]?=some l:=by rw[Z,Af (Aa _)];simp
 have B:ra H (kf Fr l 0) (β++[l]) (.Oa st.bx.length::Ya) (.func (.yield l) #[] #[]::A):=by
  simp only[ra];exact⟨_,_,rfl,by simp only[Rd];grind,ra.mono u _ _ hcr⟩
 have F:=oy hcf (S:={S with sw:=H,sF:=kf Fr l 0,sβ:=β++[l]}) X (fun d h=>by cases h) M (Le.refl _ _ _) B (hSZ.at M) hSZ.Fi (K:=fun a' w'=>Rl P {S with sw:=H,sF:=kf Fr l 0,sβ:=β++[l]} s2Z a' w') (fun a' w' h=>h);unfold Enters at F;rw[if_neg hne]at F;obtain⟨hent,E⟩:=F;refine⟨l,mk,H,{target:=.fn (.func h) A.toArray,args:=#[.func (.yield l) #[] #[]]},H,h,(.func (.yield l) #[] #[]::A).toArray,H,k1Z,?_,fun _ _=>trivial,?_,(fun h=>by cases h),?_⟩
 ·grind [resolve,Deferred.ofValue,Sem.run_pure,Act.eval]
 ·grind [iv,invoke]
 ·refine xE.2 (E.mono fun e w3Z hqZ=>?_)
  obtain⟨v,rfl,L,I,R3Z,T⟩:=hqZ;have N:I[st.bx.length]?=some l:=T.box _ _ O;split at p
  case h_2=>cases p
  rename_i e0Z f' k' s live' snap' U;obtain⟨g3,b1,b2Z,b3Z⟩:=R3Z.bx.2 _ _ U;rw[N]at b1;cases b1;have q:ms P w3Z L I f' k' s live' snap' l:=by
   rcases b3Z with⟨vs,e,_,p,_⟩|⟨_,_,_,_,_,x,X⟩
   ·obtain⟨_,_,_,p,_⟩:=p;simp only[Rd]at p
   ·grind
  obtain⟨r3,W,q2Z,q3Z,J,q5Z⟩:=q;have fin:r3.state≠.busy->∀o1:Out,(o1=o/\{s2Z with bx:=s2Z.bx.set st.bx.length (0,[.lp f' k' .over live' snap'])}=st')->(o1=.normal/\r3.pending=none\/∃j:zx,r3.pending=some j.code/\o1=(match j with| .exit i=>.exit i| .ret=>.ret))->∃z t,(Instr.endLoop l).run P w3Z=.ok z t/\(match z with
   |none=>Q .normal {a with defers:=mk++a.defers} t
   |some c=>c.wpIn (fw r) 0 P Q {a with defers:=mk++a.defers} t):=fun C o1 hoZ hjZ=>by
   obtain⟨rfl,rfl⟩:=hoZ;obtain⟨R4Z,G⟩:=R3Z.PI (r':={r3 with state:=.exhausted}) (f':=f') (k':=k') (s':=.over) (live':=live') (snap':=snap') U N fun G=>⟨_,World.putObj_heap_same (Nh.1 W).1,q2Z,q3Z,trivial,fun i=>(q5Z i).mono G⟩
   have n:=hKZ _ _ ⟨L,I,R4Z,(hlZ.trans u).trans (T.trans G)⟩;refine⟨_,_,run_endLoop W C,?_⟩;rcases hjZ with⟨rfl,hpZ⟩|⟨j,hpZ,rfl⟩
   ·rw[hpZ]at n⊢;exact n
   ·rw[hpZ]at n⊢
    cases j with
    |exit i=>exact wpIn_exit n
    |ret=>exact wpIn_ret n
  split at p
  ·cases p
   exact fin (by rw[J.1];simp) .normal ⟨rfl,rfl⟩ (.inl ⟨rfl,J.2⟩)
  ·rename_i i
   cases p;exact fin (by rw[J.1];simp) (.exit i) ⟨rfl,rfl⟩ (.inr ⟨.exit i,J.2,rfl⟩)
  ·cases p
   exact fin (by rw[J.1];simp) .ret ⟨rfl,rfl⟩ (.inr ⟨.ret,J.2,rfl⟩)
  ·cases p
def aX{F}{n}{P}{a}{w}{Q}{c}(h:c.wpIn F n P (fun e a w=>Q e a w/\∀l,e≠.goto l) a w):(Code.scope c).wpIn F n P Q a w:=by
 intro b k cs q j hr;have r:∀(a:Act)(w:World),step P (lone (b.atR a (.code (.scope c)::k)) cs w)=.next (lone (b.atR a (.code c::.inScope c::k)) cs w):=fun a w=>step_lone_go pa
 have t:∀(a:Act)(w:World),step P (lone (b.atR a (.inScope c::k)) cs w)=.next (lone (b.atR a k) cs w):=fun a w=>step_lone_go pa
 have u:(lone (b.atR a (.code (.scope c)::k)) cs w).fenced P F:=fenced_calm j hr rfl;obtain⟨e,g,i,⟨v,x⟩,d⟩:=h b (.inScope c::k) cs q j hr;refine⟨e,g,i,v,.of_steps (.one u (r a w)) ?_⟩;cases e with
 |normal=>exact StepsIn.trans d (.one (fenced_calm j hr rfl) (t _ _))
 |exit id=>exact⟨fun k' o=>d.1 k' (by simp[exitTo,o]),fun p o=>d.2 p (by simp[exitTo,o])⟩
 |goto l'=>grind
 |ret=>exact d
 |panic o=>exact d
 |outgrown=>exact d
def Out.d4(o:Out)(l):o.ex≠.goto l:=by cases o<;>simp[Out.ex]
theorem Rq(hmZ:P.follows .mixedOrders=true)(L:Gb P Γ cf)(Z:Good Γ S){n}{f}(hfn:∃fn,P.funcs[f]?=some fn/\S.nt=fn.ntmps)(hrd:∀l,r=some l->∃rec,S.sw.heap[l]?=some (Obj.loop rec)):
 ∀(code)(C)(lv)(c)(z),Ud P qs f S.nt C lv code=some (c,z)->(∀j q,(Vb code)[j]?=some q->ol P f (C+j)=some q)->∀(st st')(o)(a)(w)(Q),
 oa cf n c st=some (o,st')->st.al=[]->Rl P S st a w->(∀a' w',Rl P S st' a' w'->Q o.ex a' w')->code.wpIn (fw r) 0 P Q a w:=by
 intro code
 induction code with
 |skip=>
  intro C lv c z d i st st' o a w Q A _ hr v;cases d;cases A;exact wpIn_skip (v a w hr)
 |region id ops I=>
  intro C lv c z d i st st' o a w Q A p hr v;cases lv with
  |nil=>grind [Ud,sp]
  |cons l lv=>
   simp only[Ud]at d;split at d
   case h_2=>grind [sp]
   rename_i W D;cases d;unfold yD at D;have M:∀q:List Ta×BT,Js P qs S.nt ops=some q->I=true->ka.jg l q.1 q.2=c->(Code.region id ops I).wpIn (fw r) 0 P Q a w:=fun q N O d=>by
    cases d;subst O;obtain⟨sF,E,K⟩:=qm A;obtain⟨T,G,B⟩:=qb E;cases K;exact zdk hmZ L Z N G B p hr fun s a' w' hs u=>v a' w' (hs▸u.Gf l)
   split at D
   ·grind [Option.map_eq_some_iff]
   split at D
   ·rename_i q N
    cases D;obtain⟨sF,E,K⟩:=qm A;obtain⟨T,G,B⟩:=qb E;cases K;exact zdo hmZ L Z N G B p hr fun a' w' u=>v a' w' (u.Gf l)
   grind [Option.map_eq_some_iff]
 |seq x y I M=>
  intro C lv c z d i st st' o a w Q A p hr v;obtain⟨⟨c1,H⟩,E,d⟩:=qb d;obtain⟨⟨c2,l2Z⟩,K,d⟩:=qm d;cases d;obtain⟨⟨o1,s1⟩,G,B⟩:=qb A;refine wpIn_seq (I C lv c1 H E (fun j q X=>i j q (by grind [Vb])) st s1 o1 a w _ G p hr fun a' w' u=>?_);have D:=Tm c1 st o1 s1 G p;cases o1 with
  |normal=>exact M _ H c2 l2Z K (fun j q X=>by have:=i ((Vb x).length+j) q (by simp only[Vb];grind);grind) s1 st' o a' w' Q B D u v
  |exit id=>cases B;exact v a' w' u
  |ret=>cases B;exact v a' w' u
 |cond x J b1 I M=>
  intro C lv c z d i st st' o a w Q A p hr v;obtain⟨y,hyZ,d⟩:=qb d;obtain⟨⟨c1,H⟩,E,d⟩:=qb d;obtain⟨⟨c2,l2Z⟩,K,d⟩:=qm d;cases d;simp only[oa]at A;split at A
  ·rename_i t e1
   obtain⟨Fr,β,R,U⟩:=hr;have D:=dc R.sl hyZ;rw[e1]at D;obtain⟨D,_⟩:=Oc D;refine wpIn_cond D ?_;cases t with
   |true=>
    exact I C lv c1 H E (fun j q X=>i j q (by grind [Vb])) st st' o a w Q A p ⟨Fr,β,R,U⟩ v
   |false=>
    exact M _ H c2 l2Z K (fun j q X=>by
     have:=i ((Vb J).length+j) q (by simp only[Vb];rw[Af aa];simpa using X)
     grind) st st' o a w Q A p ⟨Fr,β,R,U⟩ v
  ·cases A
 |block id b V=>
  intro C lv c z d i st st' o a w Q A p hr v;obtain⟨⟨c1,H⟩,E,d⟩:=qm d;cases d;obtain⟨⟨o1,s1⟩,G,B⟩:=qm A;have F:S.sβ.length<=st.bx.length:=by
   obtain⟨Fr,β,R,U⟩:=hr;rw[R.bx.1];exact wS U
  refine wpIn_block (V C lv c1 H E i st s1 o1 a w _ G p hr fun a' w' u=>?_);cases o1 with
  |normal=>cases B;exact v a' w' (u.Ei F)
  |ret=>cases B;exact v a' w' u
  |exit j=>
   dsimp only at B;simp only[Out.ex,Exit.inBlock];split at B
   ·rename_i e;cases B;rw[if_pos e];exact v a' w' (u.Ei F)
   ·rename_i e;cases B;rw[if_neg e];exact v a' w' u
 |loop b V=>
  intro C lv c z d i st st' o a w Q A p hr v;cases lv with
  |nil=>grind [Ud,sp]
  |cons l lv=>
   obtain⟨⟨c1,H⟩,E,d⟩:=qm d;cases d;have F:S.sβ.length<=st.bx.length:=by
    obtain⟨Fr,β,R,U⟩:=hr;rw[R.bx.1];exact wS U
   intro Y k cs hbf M T;have key:∀(m:Nat)(s:St)(a:Act)(w:World),Cc (oa cf n c1) l st.bx.length m s=some (o,st')->s.al=[]->Rl P S s a w->∃e a' w',Q e a' w'/\ArrivesIn (Machine.fenced P (fw r)) P (lone (Y.atR a (.code b::.inLoop b::k)) cs w) Y k cs e a' w':=by
    intro m
    induction m with
    |zero=>intro s a w h;cases h
    |succ m ihm=>
     intro s a w h p hr;obtain⟨⟨o1,s1⟩,G,B⟩:=qb h;obtain⟨e,J,W,N,D⟩:=V C lv c1 H E i s s1 o1 a w (fun e a' w'=>e=o1.ex/\Rl P S s1 a' w') G p hr (fun a' w' u=>⟨rfl,u⟩) Y (.inLoop b::k) cs hbf M T;obtain⟨rfl,O⟩:=N;cases o1 with
     |normal=>
      obtain⟨e2,a2Z,w2Z,hq2,I⟩:=ihm _ J W B rfl (O.only l F);exact⟨e2,a2Z,w2Z,hq2,.of_steps (StepsIn.trans D (.one (fenced_calm M T rfl) stepR_inLoop)) I⟩
     |exit id=>cases B;exact⟨_,J,W,v J W O,.pass (x:=.inLoop b) rfl (fun _ _=>.inl (by simp[Out.ex])) D⟩
     |ret=>cases B;exact⟨_,J,W,v J W O,.pass (x:=.inLoop b) rfl (fun _ _=>.inl (by simp[Out.ex])) D⟩
   obtain⟨e,a',w',N,D⟩:=key n _ a w A rfl (hr.only l F);exact⟨e,a',w',N,.of_steps (.one (fenced_calm M T rfl) stepR_loop) D⟩
 |exit id=>
  intro C lv c z d i st st' o a w Q A _ hr v;cases lv with
  |nil=>grind [Ud,sp]
  |cons l lv=>
   cases d;cases A;exact wpIn_exit (v a w (hr.Gf l))
 |ret=>
  intro C lv c z d i st st' o a w Q A _ hr v;cases lv with
  |nil=>grind [Ud,sp]
  |cons l lv=>
   cases d;cases A;exact wpIn_ret (v a w (hr.Gf l))
 |rangeFunc g ps az b _ _=>
  intro C lv c z d i st st' o a w Q A p hr v;cases lv with
  |nil=>grind [Ud,sp]
  |cons l lv=>
   obtain⟨y,hyZ,d⟩:=qm d;cases d;exact zcY L Z hyZ (i 0 _ rfl) hfn hrd A hr v
 |scope b V=>
  intro C lv c z d i st st' o a w Q A p hr v;exact aX (V C lv c z d i st st' o a w _ A p hr fun a' w' u=>⟨v a' w' u,fun l=>o.d4 l⟩)
 |label l=>
  intro C lv c z d i st st' o a w Q A _ hr v;cases d;cases A;exact wpIn_label (v a w hr)
 |goto l=>grind [Ud,sp]
 |refuse s=>grind [Ud,sp]
end
section
variable {P:Program} {w w':World} {Fr Fr':Nat→Nat} {β β':List Nat} {T:List Deferred} {base nt:Nat} {M:Nat→Prop} {w0:World} {F0:Nat→Nat} {st st':St} {a a':Act} {cf:Callee} {Γ:ue} {S:S0}
theorem OS:∀(ps)(k i),look (Bh k ps) i=if k<=i then ps.getD (i - k) .Ad else .Ad
 |[],k,i=>by simp[Bh,look]
 |p::ps,k,i=>by
  simp only[Bh,me];rw[OS ps (k+1) i]
  grind
def JA(a:Act):ResultVar->Sem Value
 | .tmp t=>pure (a.tmps.getD t undef)
 | .cell x t=>do loadVar t (<-asAddr (a.tmps.getD x undef))
def zdu(fn)(a):results fn a.tmps=(do
 let vs <-fn.results.mapM (JA a)
 pure (if h:vs.size=1 then vs[0]else .tuple vs)):=by
 rfl
theorem aV{rs:List ResultVar}{cs:List (Sum Nat (Nat×Bool×Nat))}(R:Rel P T base M w0 F0 nt st a w Fr β):∀{rs:List ResultVar}{cs}{vs},rs.mapM (Lm P)=some cs->cs.mapM (Bj st)=some vs->
 ∃us,(rs.mapM (JA a)).run P w=.ok us w/\ra w Fr β vs us
 |[],cs,vs,h,i=>by
  simp at h;subst h;simp at i;subst i;exact⟨[],rfl,pa⟩
 |r::rs,cs,vs,h,i=>by
  rw[kq]at h;obtain⟨c,k,h⟩:=qb h;obtain⟨z,A,h⟩:=qb h;cases h;rw[kq]at i;obtain⟨p,l,i⟩:=qb i;obtain⟨ps,D,i⟩:=qb i;cases i;obtain⟨us,V,W⟩:=aV (rs:=rs) (cs:=z) R A D;have one:∃u,(JA a r).run P w=.ok u w/\Rd w Fr β p u:=by
   cases r with
   |tmp t=>
    simp only[Lm,Pb]at k;subst k;simp only[Bj,Pb]at l;subst l;exact⟨_,rfl,R.sl t⟩
   |cell x ty=>
    obtain⟨g,N,k⟩:=qb k;obtain⟨n,O,k⟩:=qb k;split at k
    ·rename_i q
     cases k;have E:=R.sl x;simp only[Bj]at l;split at l
     ·rename_i b o e1
      rw[e1]at E;obtain⟨L,B,E⟩:=E;split at l
      ·rename_i cells d
       split at l
       ·obtain⟨d,_,U,vs,e,b1,J,y,K,S,_⟩:=R.bx.cells d
        rw[B]at b1;cases b1;have Q:=y.length;have Jd:∀j v,((vs.drop o).take n)[j]?=some v->w.cell? ⟨L,o+j,none⟩=some v:=fun j v F=>by
         rw[List.getElem?_take]at F;split at F
         ·rw[cell_of_row _ _ _ _ _ _ J];grind
         grind
        have G:=MA N O la Jd q;refine⟨if g then .agg ((vs.drop o).take n).toArray else((vs.drop o).take n).getD 0 undef,?_,?_⟩
        ·grind [JA,asAddr]
        ·cases g with
         |true=>
          simp only[if_true,Pb]at l⊢;subst l;exact⟨_,rfl,(y.drop o).take n,(K.drop o).take n⟩
         |false=>
          have C:n=1:=q.resolve_left ea;obtain⟨v,H,I⟩:=zE (y.drop o) C (p:=p) la;rw[H];exact I
       grind
      grind
     grind
    grind
  obtain⟨u,H,I⟩:=one;refine⟨u::us,?_,by grind [ra]⟩;simp_all
def zhk{vs}{us}(h:ra w Fr β vs us):Rd w Fr β (Rc vs) (if h:us.toArray.size=1 then us.toArray[0]else .tuple us.toArray):=by
 match vs,us,h with
 |[],us,h=>grind [ra,Rc,Rd]
 |[p],us,h=>
  grind [ra,Rc]
 |p::q::r,us,h=>
  have a:=h.length
  grind [Rc,Rd]
theorem zhi{nb}:∀(vs),Ia nb vs=true->(Rc vs).low nb=true
 |[],_=>rfl
 |[v],h=>by grind [Ia,Rc]
 |v::u::r,h=>h
def Rel.tT{bx}{oc}(R:Rel P T base M w0 F0 nt (uh bx oc) a w Fr β)(h:∀L∈oc,Ba L=true):Rel P [] base M w0 F0 0 (uh bx oc) Rh w Fr β:=by
 have e:∀L∈oc,Ga Rh w β L=Ga a w β L:=fun L b=>(xi (h L b)).symm
 refine⟨fun i=>by simp[uh,look,Rd],rfl,kt,R.bx,R.nd,fun L b=>?_,fun L b l d k v p g c j=>?_,fun L b v g c=>?_,(fun q o=>by cases o),fun g n=>R.may g (n.imp id ?_),R.old,R.ge,R.os,R.tape,R.output⟩
 ·rw[e L b];exact R.own L b
 ·rw[e L b]at c;rw[e l d]at j
  exact R.sep L b l d k v p g c j
 ·rw[e L b]at c;exact R.out L b v g c
 ·rintro⟨L,b,v,c,j⟩
  exact⟨L,b,v,by rw[<-e L b];exact c,j⟩
theorem zA{bx bx':Na}{oc oc'}{vs2}{v0}{os}(N:bx.length=β.length)(y:Rel P [] w.heap.size (ud w β oc) w Fr nt st a' w' Fr' β')(k:Le w Fr β w' Fr' β')(r:Rd w' Fr' β' (Rc vs2) v0)
 (t:os=true->∃s,Loc.slot s∈st.ow/\a'.tmps.getD s undef=v0/\look st.sl s=Rc vs2) (H:trim bx.length vs2 st.bx=bx') (J:Th bx'.length st.ow=oc'):∃d,Ci P w Fr β oc vs2 os bx' oc' v0 w' Fr' d:=by
 have a:∀L,L∈oc'->L∈st.ow/\Ba L=true/\∀b j,L=.cell b j->b<bx'.length:=fun L c=>by
  rw[<-J]at c;obtain⟨z,G⟩:=Yc.1 c;cases L with
  |slot i=>cases G
  |cell b j=>exact⟨z,rfl,fun l v e=>by grind⟩
 have o:∀d:List Nat,(∀g∈d,g∈β')->(∀L∈oc',∀u,Ga Rh w' d L=some u->Ga a' w' β' L=some u)->os=true->og P w' Fr' (Rc vs2) v0/\∀g,v0.ownBlock=some g->(w.heap.size<=g\/ud w β oc g)/\g∉d/\∀L∈oc',∀u,Ga Rh w' d L=some u->u.ownBlock≠some g:=fun d A C Q=>by
  obtain⟨s,l,B,I⟩:=t Q;obtain⟨T,p,D,E,M⟩:=y.own _ l;simp only[Ga,Pb]at D;simp only[ab,Pb]at E;rw[B]at D;rw[I]at E;subst D;subst E;have v:Ga a' w' β' (.slot s)=some v0:=by simp only[Ga,B]
  refine⟨M,fun g n=>⟨y.may g (.inr ⟨_,l,v0,v,n⟩),fun O=>y.out _ l v0 g v n (A g O),fun L c x S K=>?_⟩⟩;exact y.sep _ l L (a L c).1 (fun e=>by have:=(a L c).2.1;rw[<-e]at this;cases this) v0 x g v (C L c x S) n K
 by_cases z:bx'=st.bx
 ·have F:Rel P [] w.heap.size (ud w β oc) w Fr nt (uh bx' oc') a' w' Fr' β':=y.Mm (fun i=>.inl rfl) z (fun L c=>⟨(a L c).1,fun i e=>by have:=(a L c).2.1;rw[e]at this;cases this⟩) rfl
  exact⟨β',⟨r,F.tT (fun L c=>(a L c).2.1),k,fun L c=>(a L c).2.1,o β' (fun _ h=>h) fun L c u R=>by grind [xi]⟩⟩
 ·have G:Ia bx.length vs2=true/\(st.bx.take bx.length).all (fun q=>Ia bx.length q.2)=true/\bx'=st.bx.take bx.length:=by
   rw[<-H]at z⊢;unfold trim at z⊢;split at z
   ·grind
   ·grind
  obtain⟨D,E,M⟩:=G;have F:Rel P [] w.heap.size (ud w β oc) w Fr nt (uh bx' oc') a' w' Fr' (β'.take bx.length):=y.cut (nb:=bx.length) (fun i=>.inl rfl) M (fun cs l=>Ag.1 E cs l) (fun L c=>⟨(a L c).1,(fun i e=>by have:=(a L c).2.1;rw[e]at this;cases this),fun b j e=>by
   have:=(a L c).2.2 b j e
   grind⟩) rfl
  refine⟨β'.take bx.length,⟨Vz _ _ (zhi vs2 D) r,F.tT (fun L c=>(a L c).2.1),⟨k.size,k.fr,k.cell,fun i g n=>?_,k.lp⟩,fun L c=>(a L c).2.1,o _ (fun g n=>nB n) fun L c u R=>?_⟩⟩
  ·have fa:=(qg n).1
   rw[lx aa];exact k.box i g n
  ·rw[xi (a L c).2.1]
   cases L<;>grind [Ga]
theorem Uv{S}{fn}{e}{u}(g:u≠.run):∀(b:List Nat)(a)(w),a.defers=b.map mark++S.T->Rl P S st a w->(∀a' w',Rl P S st a' w'->a'.tmps=a.tmps->a'.defers=S.T->LeavesInM Fence.wide 0 P fn a.tmps e S.T u w')->
 LeavesInM Fence.wide 0 P fn a.tmps e (b.map mark++S.T) u w
 |[],a,w,c,hr,h=>h a w hr rfl c
 |D::b,a,w,c,hr,h=>by
  obtain⟨Fr,β,R,n⟩:=hr;obtain⟨o,i,d⟩:=R.zgg c;refine⟨g,.inl ⟨D,_,rfl,run_takeDeferred o,?_⟩⟩;exact Uv g b {a with defers:=b.map mark++S.T} _ rfl ⟨Fr,β,i,n.trans d⟩ fun a' w' j k l=>h a' w' j k l
def Rz{S}{fn}{c}(k:S.T=[])(d)(a)(w)(l:a.defers=d)(hr:Rl P S st a w)(h:∀a' w',Rl P S st a' w'->a'.tmps=a.tmps->∃v,(results fn a'.tmps).run P w'=.ok v w'/\c (.returned v) w'):
 LeavesInM Fence.wide 0 P fn a.tmps c d .returning w:=by
 have b:=hr;obtain⟨Fr,β,R,n⟩:=b;obtain⟨e,g,i,j⟩:=R.df
 grind [Uv,LeavesInM,LeavesIn]
theorem dV{w}{Fr}{β}:∀(ps:List Nat)(az)(us)(sl)(tmps),(∀p∈ps,p<tmps.size)->ra w Fr β az us->(∀i,Rd w Fr β (look sl i) (tmps.getD i undef))->
 ((ps.zip us).foldl (fun(t:Array Value)(q:Nat×Value)=>t.setIfInBounds q.1 q.2) tmps).size=tmps.size/\∀i,Rd w Fr β (look ((ps.zip az).foldl (fun l p=>p::l) sl) i) (((ps.zip us).foldl (fun(t:Array Value)(q:Nat×Value)=>t.setIfInBounds q.1 q.2) tmps).getD i undef)
 |[],az,us,sl,tmps,_,_,h=>⟨rfl,h⟩
 |p::ps,[],us,sl,tmps,_,hr,h=>by simp only[ra]at hr;simp_all
 |p::ps,a::az,us,sl,tmps,d,hr,h=>by
  obtain⟨u,us,rfl,c,b⟩:=hr;simp only[List.zip_cons_cons,Pf];obtain⟨g,j⟩:=dV ps az us ((p,a)::sl) (tmps.setIfInBounds p u) (fun q e=>by grind) b fun i=>by
   rw[me,yo,Array.getElem?_setIfInBounds]
   grind [Array.getD_eq_getD_getElem?]
  grind
theorem zcZ:∀(c)(k){g}{ps}{az b},(Vb c)[k]?=some (g,ps,az,b)->∀(j)(q),(Vb az++Vb b)[j]?=some q->(Vb c)[k+1+j]?=some q:=by
 intro c
 induction c with
 |seq a b o d=>
  intro k g ps az i h j q l;simp only[Vb]at h⊢;by_cases p:k<(Vb a).length
  ·grind
  ·rw[Af aa]at h
   rw[Af aa];have:=d _ h j q l;rwa[show k+1+j - (Vb a).length=k - (Vb a).length+1+j by omega]
 |cond x a b o d=>
  intro k g ps az i h j q l;simp only[Vb]at h⊢;by_cases p:k<(Vb a).length
  ·grind
  ·rw[Af aa]at h
   rw[Af aa];have:=d _ h j q l;rwa[show k+1+j - (Vb a).length=k - (Vb a).length+1+j by omega]
 |block id b n=>intro k g ps az i h;exact n k h
 |loop b n=>intro k g ps az i h;exact n k h
 |scope b n=>intro k g ps az i h;exact n k h
 |rangeFunc u r e t o d=>
  intro k g ps az i h j q l;simp only[Vb]at h⊢;cases k with
  |zero=>
   grind
  |succ k=>
   rw[yk]at h;rw[show k+1+1+j=(k+1+j)+1 by omega,yk];by_cases p:k<(Vb e).length
   ·grind
   ·rw[Af aa]at h
    rw[Af aa];have:=d _ h j q l;rwa[show k+1+j - (Vb e).length=k - (Vb e).length+1+j by omega]
 |_=>intro k g ps az i h;simp[Vb]at h
theorem X3(hmZ:P.follows .mixedOrders=true){code}(W:∀f c,code f=some c->∃lv,Km P lv f=some c){n}(hcf:Gb P Γ cf){args}{bx bx'}{oc oc'}{M}{os}(h:Jl cf code n args bx oc=some (M,os,bx',oc'))
 {w} {Fr} {β} {vs} (y:wm P Γ w Fr β args vs bx oc):Enters P hb vs w fun e w'=>∃v Fr' β',e=.returned v/\Ci P w Fr β oc M os bx' oc' v w' Fr' β':=by
 unfold Jl at h;split at h
 case h_2=>cases h
 rename_i b az;split at h
 case h_2=>cases h
 rename_i e0Z f k live E hbx;obtain⟨c,hcZ,hAZ⟩:=qb h;obtain⟨q,hqZ,hBZ⟩:=qb hAZ;split at hBZ
 case isFalse=>cases hBZ
 rename_i Q;obtain⟨⟨o1,s1⟩,X,h⟩:=qb hBZ;dsimp only at h;have U:=y.args;obtain⟨v0,us,rfl,hyZ,hus⟩:=U;obtain⟨g,H,rfl⟩:=hyZ;obtain⟨g0Z,b1,hF,hat⟩:=y.rel.bx.2 b _ hbx;rw[H]at b1;cases b1;have hrec:ms P w Fr β f k .ready live E g:=by
  rcases hat with⟨vs,e,_,G,_⟩|⟨_,_,_,_,_,heZ,h1Z⟩
  ·grind [ra,Rd]
  ·grind
 obtain⟨r,q1Z,⟨fn,I,htm⟩,⟨x,hra⟩,⟨hst,hpe⟩,hsn⟩:=hrec;obtain⟨lv,u⟩:=W f c hcZ;unfold Km at u;rw[I]at u;dsimp only at u;split at u
 case h_2=>cases u
 rename_i body V;split at u
 case isFalse=>cases u
 obtain⟨⟨ccZ,lv'⟩,hcc,u⟩:=qb u;obtain⟨rgZ,hrg,u⟩:=qb u;obtain⟨rs,hrs,rfl⟩:=qm u;obtain⟨K,lvk,k1Z,C⟩:=tO hrg k q hqZ;rw[Zc]at C;have R:ol P f k=some K:=by unfold ol;rw[I];simp only[Ja,V];exact k1Z
 rw[hra]at R;cases R;unfold zD at C;split at C
 case isFalse=>cases C
 rename_i hps;obtain⟨⟨ac,lv2⟩,hac,C⟩:=qb C;obtain⟨⟨bcZ,lv3⟩,hbc,C⟩:=qm C;cases C;obtain⟨ps,e1⟩:∃ps,ps=r.params:=⟨_,rfl⟩;rw[<-e1]at Q X hps;have hSZ:Good Γ ⟨w.heap.size,ud w β oc,w,Fr,fn.ntmps,w,Fr,β,[]⟩:=⟨y.g,fun g H=>⟨Γ.lt w y.g g H,y.Fi g H⟩⟩;have hpall:∀p∈ps.toList,p<fn.ntmps:=fun p y=>by simpa using List.all_eq_true.1 hps p y
 have Y:((r.params.zip us.toArray).foldl (fun tmps(t,a)=>tmps.setIfInBounds t a) r.tmps)=(ps.toList.zip us).foldl (fun(t:Array Value)(q:Nat×Value)=>t.setIfInBounds q.1 q.2) r.tmps:=by
  rw[<-e1,<-Array.foldl_toList,Array.toList_zip]
 obtain⟨hsz,hsl⟩:=dV ps.toList az us (live.zip E) r.tmps (by rw[htm];omega) hus hsn;obtain⟨a0,T⟩:∃a0:Act,a0={tmps:=((ps.toList.zip us).foldl (fun(t:Array Value)(q:Nat×Value)=>t.setIfInBounds q.1 q.2) r.tmps),defers:=[]}:=⟨_,rfl⟩;have A:∀L∈oc,∀w β,Ga a0 w β L=Ga Rh w β L:=fun L z w β=>xi (y.cells L z)
 have R0Z:Rel P [] w.heap.size (ud w β oc) w Fr fn.ntmps {sl:=(ps.toList.zip az).foldl (fun l p=>p::l) (live.zip E),ow:=oc,al:=[],bx:=bx} a0 w Fr β:=by
  refine⟨fun i=>by subst T;exact hsl i,la,by subst T;exact kt,y.rel.bx,y.rel.nd,fun L z=>?_,fun L z L'Z hL' hne v v'Z g Z hv'=>?_,fun L z v g Z=>?_,(fun q hqZ=>by cases hqZ),fun g H=>.inr ?_,y.rel.old,Aa _,rfl,rfl,rfl⟩
  ·obtain⟨v,p,k1Z,C,k3Z⟩:=y.rel.own L z
   exact⟨v,p,by rw[A L z];exact k1Z,by rw[DA (y.cells L z) (oc:=oc)];exact C,k3Z⟩
  ·rw[A L z]at Z;rw[A L'Z hL']at hv'
   exact y.rel.sep L z L'Z hL' hne v v'Z g Z hv'
  ·rw[A L z]at Z;exact y.rel.out L z v g Z
  ·refine H.imp id ?_
   rintro⟨L,z,v,Z,H⟩;exact⟨L,z,v,by rw[<-A L z];exact Z,H⟩
 refine⟨g,us,r,rfl,q1Z,?_,?_⟩
 ·rw[<-e1,hus.length,Q];simp
 rw[Y];refine roundIn_of_wpIn trivial ?_;rw[<-T];have S:∀j K,(Vb r.assign++Vb r.body)[j]?=some K->ol P f (k+1+j)=some K:=fun j K hjZ=>by
  grind [ol,zcZ]
 refine Rq (r:=some g) hmZ hcf hSZ (f:=f) ⟨fn,I,rfl⟩ (fun l e=>by cases e;exact⟨r,q1Z⟩) r.assign (k+1) lvk ac lv2 hac (fun j K hjZ=>S j K la) _ s1 o1 a0 w _ X rfl ⟨Fr,β,R0Z,Le.refl _ _ _⟩ fun a1Z w1Z hr1=>?_
 obtain⟨Fr1,β1Z,RxZ,J⟩:=hr1;have hb1:β1Z[b]?=some g:=J.box _ _ H;split at h
 case h_2=>cases h
 rename_i e1' f1Z k1' D F O;obtain⟨⟨o,st⟩,hev2,h⟩:=qb h;obtain⟨g0Z,b1,hF1,hat1⟩:=RxZ.bx.2 b _ O;rw[hb1]at b1;cases b1;have hrec1:ms P w1Z Fr1 β1Z f1Z k1' .ready D F g:=by
  rcases hat1 with⟨vs,e,_,G,_⟩|⟨_,_,_,_,_,heZ,h1Z⟩
  ·obtain⟨_,_,_,G,_⟩:=G;simp only[Rd]at G
  ·cases heZ;exact h1Z
 obtain⟨r1,u1Z,u2Z,u3Z,⟨u4,u5Z⟩,u6Z⟩:=hrec1;obtain⟨R1Z,B⟩:=RxZ.PI (r':={r1 with state:=.busy}) (f':=f1Z) (k':=k1') (s':=.busy) (live':=D) (snap':=F) O hb1 fun J=>⟨_,World.putObj_heap_same (Nh.1 u1Z).1,u2Z,u3Z,rfl,fun i=>(u6Z i).mono J⟩
 refine⟨_,run_beginRound u1Z u4,?_⟩;have hal1:=Tm _ _ _ _ X rfl;refine Rq (r:=some g) hmZ hcf hSZ (f:=f) ⟨fn,I,rfl⟩ (fun l e=>by cases e;exact⟨r,q1Z⟩) r.body (k+1+(Vb r.assign).length) lv2 bcZ lv3 hbc (fun j K hjZ=>by
  have:=S ((Vb r.assign).length+j) K (by rw[Af aa];simpa using hjZ)
  grind) _ st o a1Z _ _ hev2 hal1 ⟨Fr1,β1Z,R1Z,J.trans B⟩ fun a' w' hr'=>?_
 obtain⟨Fr',β',R'Z,hl'⟩:=hr';have hb':β'[b]?=some g:=hl'.box _ _ H;split at h
 case h_2=>cases h
 rename_i e0' f' k' live' snap' N;obtain⟨g0Z,b1,hF',hat'⟩:=R'Z.bx.2 b _ N;rw[hb']at b1;cases b1;have hrec':ms P w' Fr' β' f' k' .busy live' snap' g:=by
  rcases hat' with⟨vs,e,_,G,_⟩|⟨_,_,_,_,_,heZ,h1Z⟩
  ·obtain⟨_,_,_,G,_⟩:=G;simp only[Rd]at G
  ·grind
 obtain⟨r',p1Z,p2Z,p3Z,p4Z,p5Z⟩:=hrec';have hgl':=(Nh.1 p1Z).1
 have fin:∀(s:yq)(d:Option Code),s.of {r' with state:=if d.isNone then .ready else .done,pending:=d}->(trim bx.length [.flat (.bool d.isNone)] (st.bx.set b (0,[.lp f' k' s live' snap'])))=bx'->M=[.flat (.bool d.isNone)]->os=false->Th bx'.length st.ow=oc'->
  ∃v w'',(Instr.endRound g d).run P w'=.ok v w''/\∃v0 Fr' β',Ending.returned v=.returned v0/\Ci P w Fr β oc M os bx' oc' v0 w'' Fr' β':=fun s d hs h1Z G h3Z h4Z=>by
  subst G;subst h3Z;obtain⟨R2Z,B⟩:=R'Z.PI (r':={r' with state:=if d.isNone then .ready else .done,pending:=d}) (f':=f') (k':=k') (s':=s) (live':=live') (snap':=snap') N hb' fun B=>⟨_,World.putObj_heap_same hgl',p2Z,p3Z,hs,fun i=>(p5Z i).mono B⟩
  refine⟨_,_,run_endRound d p1Z,.bool d.isNone,Fr',?_⟩;obtain⟨β'',Z⟩:=zA (v0:=.bool d.isNone) (vs2:=[.flat (.bool d.isNone)]) (os:=false) y.rel.bx.1 R2Z (hl'.trans B) (by simp[Rc,Rd,yc]) (fun h=>by cases h) h1Z h4Z;exact⟨β'',rfl,Z⟩
 cases o with
 |normal=>
  cases h;exact fin .ready none ⟨rfl,rfl⟩ rfl rfl rfl rfl
 |exit i=>
  cases h;exact fin (.done (.exit i)) (some (.exit i)) ⟨rfl,rfl⟩ rfl rfl rfl rfl
 |ret=>
  cases h;exact fin (.done .ret) (some .ret) ⟨rfl,rfl⟩ rfl rfl rfl rfl
def Rel.bare(R:Rel P T base M w0 F0 nt st a w Fr β):Rel P [] base M w0 F0 nt st {a with defers:=[]} w Fr β:=by
 have l:∀L,Ga {a with defers:=[]} w β L=Ga a w β L:=fun L=>by rfl
 exact⟨R.sl,R.nt,kt,R.bx,R.nd,fun L b=>by exact R.own L b,fun L b e c d v k g=>by exact R.sep L b e c d v k g,fun L b v g=>by exact R.out L b v g,fun q i=>by exact R.al q i,fun g h=>R.may g (h.imp id fun⟨L,b,v,n,j⟩=>⟨L,b,v,la,j⟩),R.old,R.ge,R.os,R.tape,R.output⟩
theorem Xy{fn}{rs}(o:fn.results.toList.mapM (Lm P)=some rs){bx bx':Na}{oc oc'}{z}{os}(D:bx.length=β.length)
 (h:(rs.mapM (Bj st)).map (fun vs=>(vs,jo rs st.ow,trim bx.length vs st.bx,Th (trim bx.length vs st.bx).length st.ow))=some (z,os,bx',oc')) (a') (w') (K:Rl P ⟨w.heap.size,ud w β oc,w,Fr,nt,w,Fr,β,T⟩ st a' w'):
 ∃v,(results fn a'.tmps).run P w'=.ok v w'/\∃v0 Fr' β',Ending.returned v=.returned v0/\Ci P w Fr β oc z os bx' oc' v0 w' Fr' β':=by
 obtain⟨Fr',β',B,G⟩:=K;have A:=B.bare;obtain⟨i,j⟩:∃i:Act,i={a' with defers:=[]}:=⟨_,rfl⟩;have R:a'.tmps=i.tmps:=by rw[j]
 rw[<-j]at A;rw[R];obtain⟨vs2,u,h⟩:=qm h;simp only[Prod.mk.injEq]at h;obtain⟨rfl,I,E,U⟩:=h;obtain⟨us,b,L⟩:=aV (rs:=fn.results.toList) (cs:=rs) A o u;obtain⟨v0,q⟩:∃v0,(if h:us.toArray.size=1 then us.toArray[0]else .tuple us.toArray)=v0:=⟨_,rfl⟩;have l:(results fn i.tmps).run P w'=.ok v0 w':=by
  rw[zdu,Array.mapM_eq_mapM_toList];simp only[Fb,Sem.run_map];rw[b,<-q];rfl
 have k:Rd w' Fr' β' (Rc vs2) v0:=by rw[<-q];exact zhk L
 refine⟨v0,l,v0,Fr',?_⟩;have d:os=true->∃s,Loc.slot s∈st.ow/\i.tmps.getD s undef=v0/\look st.sl s=Rc vs2:=fun H=>by
  have e:∃s,rs=[.inl s]/\Loc.slot s∈st.ow:=by
   rw[<-I]at H;rcases rs with _|⟨r,_|⟨r2,a⟩⟩
   ·cases H
   ·cases r<;>grind [jo]
   ·cases r<;>cases H
  obtain⟨s,p,F⟩:=e;subst p;cases u;refine⟨s,F,?_,rfl⟩;have g:fn.results.toList.mapM (Lm P)=some [.inl s]:=o;cases n:fn.results.toList with
  |nil=>grind
  |cons x xs=>
   rw[n,kq]at g;obtain⟨c,S,g⟩:=qb g;obtain⟨C,a,g⟩:=qb g;cases g;have N:x=.tmp s:=by
    cases x with
    |tmp t=>grind [Lm]
    |cell y ty=>
     grind [Lm,Option.bind_eq_some_iff]
   have M:xs=[]:=by
    cases xs with
    |nil=>rfl
    |cons y ys=>
     rw[kq]at a;obtain⟨c,S,a⟩:=qb a;obtain⟨C,O,a⟩:=qb a;cases a
   subst N;subst M;rw[n]at b;cases b<;>grind
 obtain⟨Q,J⟩:=zA (os:=os) (bx':=bx') (oc':=oc') D A G k d E la
 grind
def Hw{Γ}{args}{vs}{bx}{oc}(b:wm P Γ w Fr β args vs bx oc)(o:args.length<=nt):
 Rel P [] w.heap.size (ud w β oc) w Fr nt {sl:=Bh 0 args,ow:=oc,al:=[],bx:=bx} {tmps:=vs.toArray++Array.replicate (nt - vs.toArray.size) undef,defers:=[]} w Fr β:=by
 have x:=b.args.length;obtain⟨a0,k⟩:∃a0:Act,a0={tmps:=vs.toArray++Array.replicate (nt - vs.toArray.size) undef,defers:=[]}:=⟨_,rfl⟩;have e:∀i,a0.tmps.getD i undef=vs.getD i undef:=fun i=>by
  rw[yo,qB]
  grind
 rw[<-k]
 ·skip
  have c:∀L∈oc,Ga a0 w β L=Ga Rh w β L:=fun L a=>xi (b.cells L a)
  refine⟨fun i=>?_,la,by grind [kt],b.rel.bx,b.rel.nd,fun L a=>?_,fun L a n d l v z g h j=>?_,fun L a v g h=>?_,(fun q u=>by cases u),fun g r=>.inr ?_,b.rel.old,Aa _,rfl,rfl,rfl⟩
  ·rw[OS,if_pos (Ab _),Nat.sub_zero,e]
   by_cases t:i<args.length
   ·obtain⟨v,y,A⟩:=b.args.get i _ (qe t)
    grind
   grind [Rd]
  ·obtain⟨v,p,A,t,y⟩:=b.rel.own L a
   exact⟨v,p,la,by rw[DA (b.cells L a) (oc:=oc)];exact t,y⟩
  ·rw[c L a]at h;rw[c n d]at j
   exact b.rel.sep L a n d l v z g h j
  ·rw[c L a]at h;exact b.rel.out L a v g h
  ·refine r.imp id ?_
   grind
def O3(H:P.follows .mixedOrders=true)(J:P.funcs[hb]?=none){code}{lib}(i:∀f c,code f=some c->∃lv,Km P lv f=some c)(t:Gb P Γ lib):∀n,Gb P Γ (Df code lib n):=by
 intro n
 induction n with
 |zero=>intro f args bx oc x os bx' oc' h;grind [Df]
 |succ n K=>
  intro f args bx oc x os bx' oc' h;simp only[Df]at h;cases d:code f with
  |none=>
   rw[d]at h;dsimp only at h;split at h
   ·grind [X3]
   ·exact t f args bx oc x os bx' oc' h
  |some c=>
   rw[d]at h;dsimp only at h;split at h
   case isFalse=>cases h
   rename_i q;obtain⟨⟨o,st⟩,A,h⟩:=qb h;obtain⟨lv,a⟩:=i f c d;unfold Km at a;split at a
   case h_2=>cases a
   rename_i fn p;split at a
   case h_2=>cases a
   rename_i body b;split at a
   case isFalse=>cases a
   obtain⟨⟨F,B⟩,z,a⟩:=qb a;obtain⟨L,I,a⟩:=qb a;obtain⟨rs,v,rfl⟩:=qm a;intro w Fr β vs k;refine enters_of (by grind [Uj]) (fun e=>by grind) ?_;have G:Good Γ ⟨w.heap.size,ud w β oc,w,Fr,fn.ntmps,w,Fr,β,[]⟩:=⟨k.g,fun g D=>⟨Γ.lt w k.g g D,k.Fi g D⟩⟩;have E:=Hw (nt:=fn.ntmps) k q;refine callsIn_wide.1 (callsIn_of_wp_marks (n:=0) p b trivial ?_);refine Rq (r:=none) H K G (f:=f) ⟨fn,p,rfl⟩ (fun l e=>by cases e) body 0 lv.main F B z ?_ _ st o _ w _ A rfl ⟨Fr,β,E,Le.refl _ _ _⟩ fun a' w' u=>?_
   ·grind [ol]
   cases o with
   |exit id=>cases h
   |normal=>exact Rz rfl _ a' w' rfl u fun y C j _=>Xy v k.rel.bx.1 h y C j
   |ret=>exact Rz rfl _ a' w' rfl u fun y C j _=>Xy v k.rel.bx.1 h y C j
end
def Sub(c c':Callee):Prop:=∀f a b o r,c f a b o=some r->c' f a b o=some r
variable {c c':Callee} {st st':St}
theorem Nu(h:Sub c c'){d}{f}{az}(hs:Lc c st d f az=some st'):Lc c' st d f az=some st':=by
 unfold Lc at hs⊢;obtain⟨r,a,b⟩:=qm hs;rw[h _ _ _ _ _ a,jd,b]
theorem rD(h:Sub c c'){d}{f}{az}(hs:Tc c st d f az=some st'):Tc c' st d f az=some st':=by
 unfold Tc at hs⊢;split at hs
 ·obtain⟨r,a,b⟩:=qb hs
  rw[h _ _ _ _ _ a,Ja]
  grind [Nu]
 grind [Nu]
theorem zcz(h:Sub c c'){f}{az}(hs:yj c f az=true):yj c' f az=true:=by
 unfold yj at hs⊢;simp only[cc]at hs⊢;refine⟨hs.1,?_⟩;obtain⟨_,hs⟩:=hs;split at hs
 ·rename_i vs r e;rw[h _ _ _ _ _ e];exact hs
 grind
theorem EU(h:Sub c c'){sl}{op}(hs:jb c sl op=true):jb c' sl op=true:=by
 cases op<;>grind [zcz,jb]
theorem V3(h:Sub c c'){f k}{live}{g}{r}(hs:Ok c f k live g st=some r):Ok c' f k live g st=some r:=by
 unfold Ok at hs⊢
 grind [Option.bind_eq_some_iff,Nu]
theorem sK{d}{x}:ma c st d (.asg x)=ma c' st d (.asg x):=by
 cases x with
 |t s=>rfl
 |c v=>rfl
theorem pK{d}{b}{n}{x y}:ma c st d (.append b n x y)=ma c' st d (.append b n x y):=by
 rfl
theorem oK{d}{x y}:ma c st d (.appendS x y)=ma c' st d (.appendS x y):=by
 rfl
theorem bJ(h:Sub c c'){d}{op}(hs:ma c st d op=some st'):ma c' st d op=some st':=by
 cases op
 case call f az=>exact rD h hs
 case callv g az=>
  simp only[ma]at hs⊢
  grind [rD,Nu]
 case calli Ih x az=>
  simp only[ma]at hs⊢;split at hs<;>grind [rD,Option.bind_eq_some_iff]
 case asg x=>grind [sK]
 case append b n x y=>grind [pK]
 case appendS x y=>grind [oK]
 all_goals exact hs
theorem Rr(h:Sub c c'){o}(hs:stepG c st o=some st'):stepG c' st o=some st':=by
 grind [stepG,Option.bind_eq_some_iff,bJ]
def UV(h:Sub c c'){o}(hs:ce c st o=some st'):ce c' st o=some st':=by
 grind [ce,Option.bind_eq_some_iff,EU,bJ]
theorem Ty(h:Sub c c'):∀{l}{st st'},Hc c l st=some st'->Hc c' l st=some st'
 |[],_,_,hs=>hs
 |o::l,st,st',hs=>by
  simp only[Hc]at hs⊢;obtain⟨s,a,b⟩:=qb hs;rw[Rr h a];exact Ty h b
theorem Uy(h:Sub c c'):∀{l}{st st'},tg c l st=some st'->tg c' l st=some st'
 |[],_,_,hs=>hs
 |o::l,st,st',hs=>by
  simp only[tg]at hs⊢;obtain⟨s,a,b⟩:=qb hs;rw[UV h a];exact Uy h b
theorem jE{b c}(h:∀s r,b s=some r->c s=some r){lv}{nb}:∀{n m}{st}{r},n<=m->Cc b lv nb n st=some r->Cc c lv nb m st=some r
 |0,_,_,_,_,hs=>by cases hs
 |n+1,0,_,_,e,_=>by omega
 |n+1,m+1,st,r,e,hs=>by
  simp only[Cc]at hs⊢;obtain⟨⟨o,s⟩,d,a⟩:=qb hs;rw[h _ _ d];cases o with
  |normal=>exact jE h aa a
  |exit i=>exact a
  |ret=>exact a
def nV{α}(a:Option α):same a a=a:=if_pos rfl
theorem tp(h:Sub c c'){live}:∀{t}{st r},yd c live t st=some r->yd c' live t st=some r
 | .done,_,_,hs=>hs
 | .one o t,st,r,hs=>by
   simp only[yd]at hs⊢;obtain⟨s,a,b⟩:=qb hs;rw[Rr h a];exact tp h b
 | .two o t q,st,r,hs=>by
   simp only[yd]at hs⊢;obtain⟨a,b⟩:=RA hs;obtain⟨s,d,e⟩:=qb a;rw[Rr h d,Ja,tp h e,tp h b,nV]
def VV(h:Sub c c'){st st'}{o}(hs:Qc c st o=some st'):Qc c' st o=some st':=by
 grind [Qc,Option.bind_eq_some_iff,Rr]
theorem Vy(h:Sub c c'):∀{l}{st st'},bg c l st=some st'->bg c' l st=some st'
 |[],_,_,hs=>hs
 |o::l,st,st',hs=>by
  simp only[bg]at hs⊢;obtain⟨s,a,b⟩:=qb hs;rw[VV h a];exact Vy h b
theorem li(h:Sub c c'){n m}(d:n<=m):∀{k}{st}{r},oa c n k st=some r->oa c' m k st=some r
 | .skip,_,_,hs=>hs
 | .kb l p t,st,r,hs=>by
   grind [oa,Option.map_eq_some_iff,Option.bind_eq_some_iff,Uy,Ty]
 | .jg l p t,st,r,hs=>by
   grind [oa,Option.map_eq_some_iff,Option.bind_eq_some_iff,Vy,tp]
 | .seq a b,st,r,hs=>by
   simp only[oa]at hs⊢;obtain⟨⟨o,s⟩,q,j⟩:=qb hs;rw[li h d q];cases o with
   |normal=>exact li h d j
   |exit i=>exact j
   |ret=>exact j
 | .cond x a b,st,r,hs=>by
   simp only[oa]at hs⊢;split at hs
   ·rename_i t e
    cases t
    ·exact li h d hs
    ·exact li h d hs
   omega
 | .block id b,st,r,hs=>by
   simp only[oa]at hs⊢;obtain⟨s,q,j⟩:=qm hs;rw[li h d q,jd,j]
 | .range f k lv g,st,r,hs=>by
   grind [oa,V3]
 | .loop lv b,st,r,hs=>by
   exact jE (fun s r hs=>li h d hs) d hs
 | .exit id lv,_,_,hs=>hs
 | .ret lv,_,_,hs=>hs
noncomputable def On(cf:Callee)(n:Nat)(c:na)(args:List PV)(bx:Na)(oc:List Loc):Option Ye:=
 if args.length<=c.nt then
  (oa cf n c.body {sl:=Bh 0 args,ow:=oc,al:=[],bx}).bind fun(o,st)=>
    match o with
    | .exit _=>none
    |_=>(c.ub.mapM (Bj st)).map fun vs=>(vs,jo c.ub st.ow,trim bx.length vs st.bx,Th (trim bx.length vs st.bx).length st.ow)
 else none
def fE(h:Sub c c'){n m}(a:n<=m){k}{args}{bx}{oc}{r}(hs:On c n k args bx oc=some r):On c' m k args bx oc=some r:=by
 grind [On,Option.bind_eq_some_iff,li]
variable {code:FuncId→Option na} {lib:Callee}
theorem ov(n)(f)(args)(bx)(oc):Df code lib (n+1) f args bx oc=match code f with|none=>if f=hb then Jl (Df code lib n) code n args bx oc else lib f args bx oc|some k=>On (Df code lib n) n k args bx oc:=rfl
def qQ(h:Sub c c'){n m}(b:n<=m){args}{bx}{oc}{r}(hs:Jl c code n args bx oc=some r):Jl c' code m args bx oc=some r:=by
 unfold Jl at hs⊢;split at hs
 case h_2=>cases hs
 split at hs
 case h_2=>cases hs
 obtain⟨k,d,hs⟩:=qb hs;obtain⟨q,e,hs⟩:=qb hs;rw[d,Ja,e,Ja];split at hs
 case isFalse=>cases hs
 rename_i l;rw[if_pos l];obtain⟨⟨o1,s1⟩,g,a⟩:=qb hs;rw[li h b g,Ja];dsimp only at a⊢;split at a
 case h_2=>cases a
 obtain⟨p,i,j⟩:=qb a;rw[li h b i];exact j
theorem gE:∀n,Sub (Df code lib n) (Df code lib (n+1))
 |0=>fun f a b o r h=>by cases h
 |n+1=>fun f a b o r h=>by
  rw[ov]at h⊢;cases c:code f with
  |none=>
   rw[c]at h;dsimp only at h⊢;split at h
   ·rename_i d;rw[if_pos d];exact qQ (gE n) (Nat.le_succ n) h
   grind
  |some k=>rw[c]at h;exact fE (gE n) (Nat.le_succ n) h
def Ws{n m}(d:n<=m):Sub (Df code lib n) (Df code lib m):=by
 induction m with
 |zero=>have:n=0:=aa
        subst this;exact fun _ _ _ _ _ h=>h
 |succ m c=>
  by_cases h:n=m+1
  ·subst h;exact fun _ _ _ _ _ h=>h
  ·exact fun f a b o r hr=>gE m _ _ _ _ _ (c aa f a b o r hr)
noncomputable def da(code:FuncId->Option na)(lib:Callee):Callee:=fun f args bx oc=>
 open Classical in if h:∃n r,Df code lib n f args bx oc=some r then some (h.choose_spec.choose)else none
def Um{f}{a}{b}{o}{r}:da code lib f a b o=some r ↔ ∃n,Df code lib n f a b o=some r:=by
 unfold da;constructor
 ·intro h
  split at h<;>grind
 ·rintro⟨n,d⟩
  have c:∃n r,Df code lib n f a b o=some r:=⟨n,r,d⟩;have e:=c.choose_spec.choose_spec;have g:=Ws (Bk c.choose n) _ _ _ _ _ e;have i:=Ws (Al c.choose n) _ _ _ _ _ d
  grind
structure Ai (F:Nat→Callee) (W:Callee):Prop where
 mono:∀ n m,n≤m→Sub (F n) (F m)
 fin:∀ f a b o r,W f a b o=some r→∃ n,F n f a b o=some r
variable {F:Nat→Callee} {W:Callee}
theorem ny(h:Ai F W){d}{f}{az}(hs:Lc W st d f az=some st'):∃n,Lc (F n) st d f az=some st':=by
 unfold Lc at hs⊢;obtain⟨r,a,b⟩:=qm hs;obtain⟨n,c⟩:=h.fin _ _ _ _ _ a
 grind
theorem qD(h:Ai F W){d}{f}{az}(hs:Tc W st d f az=some st'):∃n,Tc (F n) st d f az=some st':=by
 unfold Tc at hs⊢;split at hs
 ·rename_i g
  obtain⟨⟨vs,os,bx,oc⟩,b,a⟩:=qb hs;obtain⟨n,c⟩:=h.fin _ _ _ _ _ b;dsimp only at a;split at a
  ·grind
  ·rename_i i
   obtain⟨m,e⟩:=ny h a;exact⟨max n m,by rw[if_pos g,h.mono _ _ (Bk n m) _ _ _ _ _ c,Ja];dsimp only;rw[if_neg i];exact Nu (h.mono _ _ (Al n m)) e⟩
 grind [ny]
theorem yU(h:Ai F W){f}{az}(hs:yj W f az=true):∃n,yj (F n) f az=true:=by
 unfold yj at hs⊢;split at hs
 ·rename_i vs r e
  obtain⟨n,a⟩:=h.fin _ _ _ _ _ e
  grind
 grind
def zcH(h:Ai F W){sl}{op}(hs:jb W sl op=true):∃n,jb (F n) sl op=true:=by
 cases op
 case call f az=>exact yU h hs
 case callv g az=>
  grind [jb,yU]
 all_goals exact⟨0,hs⟩
theorem U3(h:Ai F W){f k}{live}{g}{r}(hs:Ok W f k live g st=some r):∃n,Ok (F n) f k live g st=some r:=by
 unfold Ok at hs⊢;split at hs<;>grind [Option.bind_eq_some_iff,ny]
def TV(h:Ai F W){d}{op}(hs:ma W st d op=some st'):∃n,ma (F n) st d op=some st':=by
 cases op
 case call f az=>exact qD h hs
 case callv g az=>
  simp only[ma]at hs⊢;split at hs<;>grind [qD,ny]
 case calli Ih x az=>
  simp only[ma]at hs⊢;split at hs
  ·obtain⟨f,a,hs⟩:=qb hs
   split at hs
   ·cases hs
   ·rename_i e
    obtain⟨n,c⟩:=qD h hs;exact⟨n,by rw[a,Ja,if_neg e];exact c⟩
  ·cases hs
 case asg x=>exact⟨0,by grind [sK]⟩
 case append b n x y=>exact⟨0,by grind [pK]⟩
 case appendS x y=>exact⟨0,by grind [oK]⟩
 all_goals exact⟨0,hs⟩
theorem YA(h:Ai F W){o}(hs:stepG W st o=some st'):∃n,stepG (F n) st o=some st':=by
 unfold stepG at hs⊢;obtain⟨b,c,a⟩:=qb hs;rw[c];cases b
 ·simp_all
 ·exact TV h a
def zfG(h:Ai F W){o}(hs:ce W st o=some st'):∃n,ce (F n) st o=some st':=by
 unfold ce at hs⊢;obtain⟨b,d,a⟩:=qb hs;rw[d];cases b
 ·simp_all
 ·simp only[if_true,Ja]at a⊢
  split at a
  ·rename_i c
   obtain⟨n,e⟩:=TV h a;obtain⟨m,c⟩:=zcH h c;exact⟨max n m,by rw[if_pos (EU (h.mono _ _ (Al n m)) c)];exact bJ (h.mono _ _ (Bk n m)) e⟩
  grind
theorem jQ(h:Ai F W):∀{l}{st st'},Hc W l st=some st'->∃n,Hc (F n) l st=some st'
 |[],_,_,hs=>⟨0,hs⟩
 |o::l,st,st',hs=>by
  obtain⟨s,a,b⟩:=qb hs;obtain⟨n1,c⟩:=YA h a;obtain⟨n2,d⟩:=jQ h b;refine⟨max n1 n2,?_⟩;simp only[Hc];rw[Rr (h.mono _ _ (Bk ..)) c];exact Ty (h.mono _ _ (Al ..)) d
theorem lQ(h:Ai F W):∀{l}{st st'},tg W l st=some st'->∃n,tg (F n) l st=some st'
 |[],_,_,hs=>⟨0,hs⟩
 |o::l,st,st',hs=>by
  obtain⟨s,a,b⟩:=qb hs;obtain⟨n1,c⟩:=zfG h a;obtain⟨n2,d⟩:=lQ h b;refine⟨max n1 n2,?_⟩;simp only[tg];rw[UV (h.mono _ _ (Bk ..)) c];exact Uy (h.mono _ _ (Al ..)) d
theorem Wy(h:Ai F W){live}:∀{t}{st r},yd W live t st=some r->∃m,yd (F m) live t st=some r
 | .done,_,_,hs=>⟨0,hs⟩
 | .one o t,st,r,hs=>by
   obtain⟨s,a,b⟩:=qb hs;obtain⟨n1,c⟩:=YA h a;obtain⟨n2,d⟩:=Wy h b;refine⟨max n1 n2,?_⟩;simp only[yd];rw[Rr (h.mono _ _ (Bk ..)) c];exact tp (h.mono _ _ (Al ..)) d
 | .two o t q,st,r,hs=>by
   obtain⟨a,b⟩:=RA hs;obtain⟨s,e,g⟩:=qb a;obtain⟨n1,c⟩:=YA h e;obtain⟨n2,d⟩:=Wy h g;obtain⟨n3,i⟩:=Wy h b;refine⟨max n1 (max n2 n3),?_⟩;simp only[yd];rw[Rr (h.mono _ _ (Bk ..)) c,Ja,tp (h.mono _ _ aa) d,tp (h.mono _ _ aa) i,nV]
def zfH(h:Ai F W){st st'}{o}(hs:Qc W st o=some st'):∃m,Qc (F m) st o=some st':=by
 grind [Qc,Option.bind_eq_some_iff,YA]
theorem nQ(h:Ai F W):∀{l}{st st'},bg W l st=some st'->∃m,bg (F m) l st=some st'
 |[],_,_,hs=>⟨0,hs⟩
 |o::l,st,st',hs=>by
  obtain⟨s,a,b⟩:=qb hs;obtain⟨n1,c⟩:=zfH h a;obtain⟨n2,d⟩:=nQ h b;refine⟨max n1 n2,?_⟩;simp only[bg];rw[VV (h.mono _ _ (Bk ..)) c];exact Vy (h.mono _ _ (Al ..)) d
theorem Pn(h:Ai F W){n}:∀{k}{st}{r},oa W n k st=some r->∃m,oa (F m) n k st=some r
 | .skip,_,_,hs=>⟨0,hs⟩
 | .kb l p t,st,r,hs=>by
   obtain⟨s,c,d⟩:=qm hs;obtain⟨s1,u,v⟩:=qb c;obtain⟨n1,j⟩:=lQ h u;obtain⟨n2,q⟩:=jQ h v;refine⟨max n1 n2,?_⟩;simp only[oa];rw[Uy (h.mono _ _ (Bk ..)) j,Ja,Ty (h.mono _ _ (Al ..)) q,jd,d]
 | .jg l p t,st,r,hs=>by
   obtain⟨s,c,d⟩:=qm hs;obtain⟨s1,u,v⟩:=qb c;obtain⟨n1,j⟩:=nQ h u;obtain⟨n2,q⟩:=Wy h v;refine⟨max n1 n2,?_⟩;simp only[oa];rw[Vy (h.mono _ _ (Bk ..)) j,Ja,tp (h.mono _ _ (Al ..)) q,jd,d]
 | .seq a b,st,r,hs=>by
   obtain⟨⟨o,s⟩,c,d⟩:=qb hs;obtain⟨n1,j⟩:=Pn h c;cases o with
   |normal=>
    obtain⟨n2,q⟩:=Pn h d;refine⟨max n1 n2,?_⟩;simp only[oa];rw[li (h.mono _ _ (Bk ..)) (Aa n) j];exact li (h.mono _ _ (Al ..)) (Aa n) q
   |exit i=>exact⟨n1,by grind [oa]⟩
   |ret=>exact⟨n1,by simp only[oa];grind⟩
 | .cond x a b,st,r,hs=>by
   simp only[oa]at hs⊢;split at hs
   ·rename_i t e
    cases t
    ·exact Pn h hs
    ·exact Pn h hs
   grind
 | .block id b,st,r,hs=>by
   simp only[oa]at hs⊢;obtain⟨s,c,d⟩:=qm hs;obtain⟨n1,j⟩:=Pn h c
   grind
 | .range f k lv g,st,r,hs=>by
   grind [oa,U3]
 | .loop lv b,st,r,hs=>by
   simp only[oa]at hs⊢;have y:∀(k nb:Nat)(st:St)(r:Out×St),Cc (oa W n b) lv nb k st=some r->∃m,Cc (oa (F m) n b) lv nb k st=some r:=by
    intro k nb
    induction k with
    |zero=>intro st r h;cases h
    |succ k w=>
     intro st r hs;obtain⟨⟨o,s⟩,c,d⟩:=qb hs;obtain⟨n1,j⟩:=Pn h c;cases o with
     |normal=>
      obtain⟨n2,q⟩:=w _ r d;refine⟨max n1 n2,?_⟩;simp only[Cc];rw[li (h.mono _ _ (Bk ..)) (Aa n) j];exact jE (fun s r hs=>li (h.mono _ _ (Al ..)) (Aa n) hs) (Aa k) q
     |exit i=>exact⟨n1,by simp only[Cc];grind⟩
     |ret=>exact⟨n1,by simp only[Cc];grind⟩
   grind
 | .exit id lv,_,_,hs=>⟨0,hs⟩
 | .ret lv,_,_,hs=>⟨0,hs⟩
def uD:Ai (Df code lib) (da code lib):=⟨fun n m h=>Ws h,fun f a b o r h=>Um.1 h⟩
def pQ{f}{k}(d:code f=some k){args}{bx}{oc}{r}{n}(h:On (da code lib) n k args bx oc=some r):da code lib f args bx oc=some r:=by
 unfold On at h;split at h
 case isFalse=>cases h
 rename_i e;obtain⟨p,a,b⟩:=qb h;obtain⟨m,c⟩:=Pn uD a;refine Um.2 ⟨max m n+1,?_⟩;rw[ov,d];dsimp only;unfold On;rw[if_pos e,li (Ws (Bk m n)) (Al m n) c];exact b
def W3(w:code hb=none){args}{bx}{oc}{r}{n}(h:Jl (da code lib) code n args bx oc=some r):da code lib hb args bx oc=some r:=by
 unfold Jl at h;split at h
 case h_2=>cases h
 split at h
 case h_2=>cases h
 rename_i z f k live g e;obtain⟨C,i,h⟩:=qb h;obtain⟨q,j,h⟩:=qb h;split at h
 case isFalse=>cases h
 rename_i x;obtain⟨⟨o1,s1⟩,l,a⟩:=qb h;dsimp only at a;split at a
 case h_2=>cases a
 rename_i e1 A B c d b;obtain⟨p,o,t⟩:=qb a;obtain⟨m,u⟩:=Pn uD l;obtain⟨y,v⟩:=Pn uD o;refine Um.2 ⟨max (max m y) n+1,?_⟩;rw[ov,w];unfold Jl;dsimp only;rw[e];dsimp only;rw[i,Ja,j,Ja,if_pos x,li (Ws aa) aa u,Ja];rw[b];dsimp only;rw[li (Ws aa) aa v];exact t
def tf{f}(a:f≠hb)(b:code f=none){args}{bx}{oc}{r}(h:lib f args bx oc=some r):da code lib f args bx oc=some r:=
 Um.2 ⟨1,by grind [ov]⟩
def pv{P}{Γ}(g:P.follows .mixedOrders=true)(d:P.funcs[hb]?=none)(a:∀f c,code f=some c->∃lv,Km P lv f=some c)(b:Gb P Γ lib):Gb P Γ (da code lib):=fun f args bx oc e os bx' oc' h=>by
 obtain⟨n,i⟩:=Um.1 h;exact O3 g d a b n f args bx oc e os bx' oc' i
open Go.WideShapes Go.ChangeShapes
def Dl(w:World)(g:Nat):Nat:=match w.heap[g]? with|some (.cells cs _ _)=>cs.size|_=>0
def x5{w}{g o}{v}(h:w.cell? ⟨g,o,none⟩=some v):o<Dl w g:=by
 grind [World.cell?,Dl]
def OV{w:World}{a}{v}(h:w.cell? a=some v):a=⟨a.block,a.off,none⟩:=by
 obtain⟨b,o,s⟩:=a;cases s<;>grind [World.cell?]
def fit(P:Program):Nat->TypeId->List PV->Prop
 |0,_,_=>False
 |n+1,t,ps=>match P.underlying t with
  |some .bool=>∃b,ps=[.flat (.bool b)]
  |some (.int k)=>∃i,ps=[.flat (.int k i)]/\(Lit.int k i).wf=true
  |some .string=>∃s:ByteArray,ps=[.flat (.string s)]/\s.size<=maxLen
  |some (.pointer e)=>ps=[.flat (.pointer none)]\/(P.cellsOf e=0/\ps=[.Ad])\/∃qs,ps=[.xd qs]/\fit P n e qs
  |some (.slice e)=>∃a:List (List PV),ps=[.ga a.length a.flatten]/\a.length<=maxLen/\∀xs∈a,fit P n e xs
  |some (.struct c)=>∃a:List (List PV),ps=a.flatten/\a.length=c.size/\∀(j:Nat)(f:Field)(xs:List PV),c[j]?=some f->a[j]?=some xs->fit P n f.type xs
  |some (.array m e)=>∃a:List (List PV),ps=a.flatten/\a.length=m/\∀xs∈a,fit P n e xs
  |_=>True
def Ex(P:Program)(w:World)(n:Nat)(t:TypeId)(cs:List Value):Prop:=∃ps,ra w (Dl w) [] ps cs/\fd cs/\fit P n t ps
def FI{w}{base}{a}{n}{cs}(h:w.cells? base a n=some cs)(p:0<n):a=⟨a.block,a.off,none⟩/\Row w (Dl w) a.block a.off cs:=by
 obtain⟨_,q,k⟩:=World.cells?_some h;have g:=k 0 p;rw[qe aa]at g;have i:a=⟨a.block,a.off,none⟩:=by
  have:=OV g;obtain⟨b,o,s⟩:=a;simp only[Addr.add]at this;simp_all
 refine⟨i,fun j v l=>?_⟩;have d:j<n:=by have:=(qg l).1;omega
 have c:=k j d;rw[l]at c;have e:a.add j=⟨a.block,a.off+j,none⟩:=by
  have:=OV c;rw[i]at this⊢;unfold Addr.add at this⊢;split
  ·grind
  ·rfl
 rw[e]at c;exact⟨x5 c,c⟩
def zdz{w}{Fr}{g o}{us vs}(h:Row w Fr g o us)(k:Row w Fr g (o+us.length) vs):Row w Fr g o (us++vs):=fun j v a=>by
 by_cases fa:j<us.length
 ·rw[yl fa]at a;exact h j v a
 ·rw[Af aa]at a
  have:=k (j - us.length) v a
  grind
theorem hU{us vs}(h:fd us)(k:fd vs):fd (us++vs):=fun v a=>(We.1 a).elim (h v) (k v)
theorem dI{P}{w}{n}{α:Type}{ty:α->TypeId}{size}:∀(l:List α)(cs),cs.length=(l.map size).sum->
 (∀(j)(f),l[j]?=some f->Ex P w n (ty f) ((cs.drop ((l.take j).map size).sum).take (size f)))->
 ∃a:List (List PV),ra w (Dl w) [] a.flatten cs/\fd cs/\a.length=l.length/\∀(j:Nat)(f)(xs),l[j]?=some f->a[j]?=some xs->fit P n (ty f) xs
 |[],cs,c,_=>by
  have:cs=[]:=qz la;subst this;exact⟨[],pa,(fun v b=>by cases b),rfl,(fun j f xs h=>by simp at h)⟩
 |f::l,cs,c,h=>by
  obtain⟨ps,b,i,k⟩:=h 0 f rfl;obtain⟨a,d,r,e,t⟩:=dI (P:=P) (w:=w) (n:=n) (ty:=ty) (size:=size) l (cs.drop (size f)) la fun j g p=>by
   have:=h (j+1) g la
   grind [List.drop_drop]
  refine⟨ps::a,?_,?_,by simp[e],fun j g xs o q=>?_⟩
  ·have:=b.append d
   grind [List.take_append_drop]
  ·grind [hU,List.take_append_drop]
  grind
def mapM_at{α γ:Type}{f}{l:List α}{r:List γ}(h:l.mapM f=some r)(j:Nat)(o)(e:l[j]?=some o):∃c,f o=some c:=by
 obtain⟨a,b⟩:=zr h;have d:j<r.length:=by rw[a];exact(qg e).1
 obtain⟨k,g,i⟩:=b j _ (qe d)
 grind
section
variable {H:Type} {enc:TypeId × Value→H} {P:Program} {w:World} {base:Nat} {spare:Nat→Bool} {held:Bool}
def go{n}{t}{v}{p}(h:Rd w (Dl w) [] p v)(b:v.oneCell'=true)(a:fit P n t [p]):Ex P w n t [v]:=
 ⟨[p],by grind [ra],fun u c=>by grind,a⟩
theorem KU(m c j)(h:j<=m):(((List.range m).take j).map fun _=>c).sum=j* c:=by
 rw[List.map_const',List.sum_replicate_nat,Ue,List.length_range,Nat.min_eq_left h]
def fl{n}{t}{v}(b:v.oneCell'=true)(a:fit P n t [.Ad]):Ex P w n t [v]:=go (p:=.Ad) (by simp[Rd]) b a
theorem zhh(K:Kids P (·<P.types.size))(U:∀t e,t<P.types.size->P.underlying t=some (.slice e)->0<P.cellsOf e):∀(n)(t:TypeId)(cs)(x),t<P.types.size->
 DataW.trod enc P w base spare held n t cs=some x->Ex P w n t cs:=by
 intro n
 induction n with
 |zero=>intro t cs x _ h;simp[DataW.trod]at h
 |succ n L=>
  intro t cs x ht h;rw[DataW.trod_step]at h;unfold DataW.trodStep at h;split at h
  case h_1 b e=>exact go (p:=.flat (.bool b)) (by simp[Rd,yc]) rfl (by grind [fit])
  case h_2 k k' i e=>
   split at h
   ·exact go (p:=.flat (.int k' i)) (by simp[Rd,yc]) rfl (by grind [fit])
   grind
  case h_3 e=>exact fl rfl (by grind [fit])
  case h_4 s e=>
   split at h
   ·exact go (p:=.flat (.string s)) (by simp[Rd,yc]) rfl (by grind [fit])
   grind
  case h_5 e=>exact go (p:=.flat (.pointer none)) (by simp[Rd,yc]) rfl (by grind [fit])
  case h_6 e a g=>
   simp only[LW,wJ]at h;obtain⟨y,⟨u,o,G⟩,rfl⟩:=h;by_cases Q:P.cellsOf e=0
   ·exact fl rfl (by grind [fit])
   ·obtain⟨R,hr⟩:=FI o aa
    obtain⟨qs,v,C,D⟩:=L e u y (K.pointer ht g) G;refine go (p:=.xd qs) ?_ rfl (by grind [fit])
    grind [Rd]
  case h_7 e=>
   refine go (p:=.ga 0 []) ?_ rfl (by simp only[fit,e];exact⟨[],rfl,Ab _,fun _ h=>by cases h⟩)
   grind [Rd]
  case h_8 e a len O g=>
   have J:=U t e ht g;split at h
   case isFalse=>cases h
   simp only[wJ]at h;obtain⟨D,F,_⟩:=h;have u:∀i,i<len->∃cs y,w.cells? base (a.add (i* P.cellsOf e)) (P.cellsOf e)=some cs/\DataW.trod enc P w base spare held n e cs=some y:=fun i T=>by
    obtain⟨c,o⟩:=mapM_at F i i (List.getElem?_range T)
    grind [Option.bind_eq_some_iff]
   by_cases Q:len=0
   ·refine go (p:=.ga 0 []) ?_ rfl (by simp only[fit,g];exact⟨[],rfl,Ab _,fun _ h=>by cases h⟩)
    grind [Rd]
   ·have H:∀k,k<=len->∃(vs:List Value)(d:List (List PV)),vs.length=k* P.cellsOf e/\Row w (Dl w) a.block a.off vs/\ra w (Dl w) [] d.flatten vs/\fd vs/\d.length=k/\∀xs∈d,fit P n e xs:=by
     intro k
     induction k with
     |zero=>exact fun _=>⟨[],[],ea,(fun j v l=>by grind),pa,(fun v S=>by cases S),rfl,fun _ h=>by cases h⟩
     |succ k v=>
      intro W;obtain⟨vs,d,z,q,r,A,M,V⟩:=v aa;obtain⟨cs,y,C,N⟩:=u k aa;obtain⟨qa,X⟩:=FI C J;obtain⟨ps,r1,r2,r3⟩:=L e cs y (K.slice ht g) N;have S:cs.length=P.cellsOf e:=(World.cells?_some C).2.1;refine⟨vs++cs,d++[ps],la,zdz q ?_,by simpa using r.append r1,hU A r2,by simp[M],fun xs B=>?_⟩
      ·grind [Addr.add]
      grind
    obtain⟨vs,d,z,q,r,A,M,V⟩:=H len (Aa _);refine go (p:=.ga d.length d.flatten) ?_ rfl (by simp only[fit,g];grind);have R:a=⟨a.block,a.off,none⟩:=by
     obtain⟨cs,y,C,N⟩:=u 0 aa;obtain⟨qa,_⟩:=FI C J;unfold Addr.add at qa;simpa using qa
    grind [Rd]
  case h_9 u g=>
   obtain⟨s1,I,v⟩:=K.struct ht g;split at h
   case isFalse=>cases h
   rename_i o;obtain⟨xs,B,_⟩:=qm h;obtain⟨d,z,q,r,A⟩:=dI (P:=P) (w:=w) (n:=n) (ty:=Field.type) (size:=fun f=>P.cellsOf f.type) u.toList _ (by rw[o,I]) fun j f l=>by
    obtain⟨c,E⟩:=mapM_at B j f l
    grind
   exact⟨d.flatten,z,q,by grind [fit]⟩
  case h_10 m e g=>
   obtain⟨s1,I⟩:=K.array ht g;split at h
   case isFalse=>cases h
   rename_i o;obtain⟨xs,B,_⟩:=qm h;obtain⟨d,z,q,r,A⟩:=dI (P:=P) (w:=w) (n:=n) (ty:=fun _=>e) (size:=fun _=>P.cellsOf e) (List.range m) _ (by rw[o,I];have:=KU m (P.cellsOf e) m (Aa _);grind) fun j f l=>by
    obtain⟨c,E⟩:=mapM_at B j f l
    grind [KU]
   refine⟨d.flatten,z,q,?_⟩;simp only[fit,g];refine⟨d,rfl,by rw[r];simp,fun ys G=>?_⟩;obtain⟨j,l⟩:=List.getElem?_of_mem G;have u:j<m:=by have:=(qg l).1;rw[r]at this;simpa using this
   exact A j j ys (List.getElem?_range u) l
  case h_11 e=>exact fl rfl (by grind [fit])
  case h_12 e=>exact fl rfl (by grind [fit])
  case h_13 e=>exact fl rfl (by simp only[fit,e])
  case h_14 e=>exact fl rfl (by simp only[fit,e])
  case h_15 e=>exact fl rfl (by simp only[fit,e])
  case h_16 e=>exact fl rfl (by grind [fit])
  case h_17 e=>exact fl rfl (by grind [fit])
  case h_18 e=>exact fl rfl (by grind [fit])
  case h_19 e=>exact fl rfl (by grind [fit])
  case h_20 e=>exact fl rfl (by grind [fit])
  grind
def Ll(P:Program)(n:Nat)(t:TypeId)(p:PV):Prop:=match P.underlying t with
 |some (.struct _)|some (.array _ _)=>∃ps,p=.agg ps/\fit P n t ps
 |_=>fit P n t [p]
def fits(P:Program):List TypeId->List PV->Prop
 |[],[]=>True
 |t::a,p::ps=>(∃n,Ll P n t p)/\fits P a ps
 |_,_=>False
def mZ{r}{a}{t}{v}(h:Cell.okWide P w r a t v):v.cells=#[v]:=by
 cases v
 case agg cs=>
  exfalso;unfold Cell.okWide at h;split at h
  all_goals first
   |(simp_all;done)
   |skip
  unfold Cell.ok at h;split at h<;>simp_all
 all_goals rfl
theorem GX(K:Kids P (·<P.types.size))(o:∀t e,t<P.types.size->P.underlying t=some (.slice e)->0<P.cellsOf e){r}{j}{t:TypeId}{v}{d}{ps}(ht:t<P.types.size)(c:Value.okWide P w r j t v)
 (h:DataW.Trod enc P w base spare held t v d ps):∃n p,Rd w (Dl w) [] p v/\Ll P n t p:=by
 obtain⟨n,l⟩:=h;obtain⟨qs,g,i,y⟩:=zhh K o n t _ _ ht l;unfold Value.okWide at c;split at c
 case h_1 k e=>
  obtain⟨cs,rfl,_⟩:=c;refine⟨n,.agg qs,?_,by grind [Ll]⟩;exact⟨cs.toList,ea,g,i⟩
 case h_2 m k e=>
  obtain⟨cs,rfl,_⟩:=c;refine⟨n,.agg qs,?_,by grind [Ll]⟩;exact⟨cs.toList,ea,g,i⟩
 case h_3 e1 e2=>
  have k:=mZ c;rw[k]at g;obtain⟨p,q,rfl⟩:∃p q,qs=p::q:=by
   cases qs<;>grind [ra]
  obtain⟨u,A,⟨rfl,rfl⟩,x,z⟩:=g;have:q=[]:=by
   cases q with
   |nil=>rfl
   |cons a b=>grind [ra]
  refine⟨n,p,x,?_⟩
  grind [Ll]
theorem qK(K:Kids P (·<P.types.size))(i:∀t e,t<P.types.size->P.underlying t=some (.slice e)->0<P.cellsOf e){r}{k}:∀{c:List TypeId}{vs}{g}{ps},(∀t∈c,t<P.types.size)->
 (∀(j:Nat) t v,c[j]?=some t->vs[j]?=some v->Value.okWide P w r k t v)->DataW.TrodAll enc P w base spare held c vs g ps->∃si,ra w (Dl w) [] si vs/\fits P c si
 |[],vs,g,ps,_,_,h=>by
  cases vs<;>cases g<;>simp[DataW.TrodAll]at h;exact⟨[],pa,trivial⟩
 |t::c,vs,g,ps,b,a,h=>by
  obtain⟨v,A,d,l,p,q,rfl,rfl,rfl,o,u⟩:=trodAll_cons h;obtain⟨n,z,D,x⟩:=GX K i (b t ea) (a 0 t v rfl rfl) o;obtain⟨si,E,y⟩:=qK K i (fun t ht=>b t (by simp[ht])) (fun j t v B C=>a (j+1) t v la la) u;exact⟨z::si,by grind [ra],⟨n,x⟩,y⟩
end
theorem AW{H}{enc}{P}{W i}(K:Kids P (·<P.types.size))(l:∀t e,t<P.types.size->P.underlying t=some (.slice e)->0<P.cellsOf e)(j:Below W.heap.size W i):∀{g:List TypeId}{vs}{c:List (DataW H)}{ps},(∀t∈g,t<P.types.size)->
 DataW.TrodAll enc P W 0 (fun _=>true) true g vs c ps->DataW.TrodAll enc P i 0 (fun b=>decide (b<W.heap.size)) true g vs c ps
 |[],vs,c,ps,_,h=>by
  grind [DataW.TrodAll]
 |t::g,vs,c,ps,a,h=>by
  have fa:=DataW.TrodAll.lt h;obtain⟨v,x,d,o,p,q,rfl,rfl,rfl,⟨n,r⟩,u⟩:=trodAll_cons h;refine⟨p,q,⟨n,?_⟩,AW K l j (fun t ht=>a t (by simp[ht])) u,rfl⟩;have w:=DataW.trod_respare (spare':=fun b=>decide (b<W.heap.size)) K l n _ _ _ (a t ea) r fun m k=>by
   grind
  exact DataW.trod_carry n _ _ _ w fun m k=>j.same (fa m (We.2 (.inl k)))
def zcE{H}{enc}{P}{W o}{f:Func}{s:ChangeSpec}{args}{g i}{b}{tb}(K:Kids P (·<P.types.size))(z:∀t e,t<P.types.size->P.underlying t=some (.slice e)->0<P.cellsOf e)
 (r:DataW.Whole enc P f.params.toList s.vars false W args.toList g i b) (a:s.vars=[]) (c:s.fn H g={results:=[.lit (.bool true)],args:=g}) (d:f.resultTypes=#[tb]) (n:P.underlying tb=some .bool) (v:∀t∈f.params.toList,t<P.types.size)
 (u:Below W.heap.size W o):s.post enc P f false true false false W args (.bool true) o:=by
 have k:=r;obtain⟨p,q,w,j,rfl,x,y⟩:=r;have l:i=[]/\q=[]:=by
  rw[a]at j;cases i<;>simp[DataW.TrodVars]at j;exact⟨rfl,j⟩
 obtain⟨rfl,rfl⟩:=l;refine⟨g,[],_,[],p,[],k,?_,?_,?_,u.frame _,fun h=>by cases h⟩
 ·rw[ph,c,d]
  exact trodAll_mk1 (shut_bool n true)
 ·grind [AW]
 ·rw[ph,c,a]
  rfl
theorem BW{H}{enc}{P}{w}{base}{spare}{held}:∀{b}{vs}{a:List (DataW H)}{ps},DataW.TrodAll enc P w base spare held b vs a ps->a.length=b.length
 |[],vs,a,ps,h=>by grind [DataW.TrodAll]
 |t::b,vs,a,ps,h=>by
  obtain⟨v,g,d,c,p,q,rfl,rfl,rfl,_,e⟩:=trodAll_cons h;simp[BW e]
variable {P:Program} {Γ:ue} {cf:Callee}
def dZ(h:Gb P Γ cf){f}(i:f≠hb){args}{v}{os}{bx}{oc}(d:cf f args [] []=some ([.flat v],os,bx,oc)){w}{Fr}{vs}(c:Γ.G w)(hr:ra w Fr [] args vs):
 Calls P f vs.toArray w fun e w'=>e=.returned v/\Below w.heap.size w w':=by
 have b:=h f args [] [] _ _ _ _ d w Fr [] vs ⟨c,hr,IA w Fr,(fun L h=>by cases h),fun g _=>Tl⟩;unfold Enters at b;rw[if_neg i]at b;refine b.2.mono ?_;rintro e w' ⟨v0,Fr',β',rfl,a⟩;have:=a.rd;obtain⟨rfl,_⟩:=this;exact⟨rfl,a.rel.os,a.rel.tape,a.rel.output,a.le.size,fun k j=>(a.rel.old k j Tl).1⟩
def Io(P:Program)(Γ:ue)(f:FuncId)(spec:List Value->Option Value):Prop:=Uj P f=true/\∀vs v,spec vs=some v->yc v=true/\∀w,Γ.G w->Calls P f vs.toArray w fun e w'=>e=.returned v/\Below w.heap.size w w'
def Ap:List PV->Option (List Value)
 |[]=>some []
 | .flat v::r=>(Ap r).map (v::·)
 |_=>none
def Pk(spec:FuncId->List Value->Option Value):Callee:=fun f args bx oc=>match bx,oc with
 |[],[]=>((Ap args).bind (spec f)).map fun v=>([.flat v],false,[],[])
 |_,_=>none
theorem Yy{w}{Fr}{β}:∀{args}{us vs},Ap args=some us->ra w Fr β args vs->vs=us
 |[],us,vs,h,k=>by grind [Ap,ra]
 |p::r,us,vs,h,k=>by
  cases p<;>simp only[Ap]at h<;>try (cases h;done)
  obtain⟨d,a,rfl⟩:=qm h;obtain⟨u,e,rfl,b,c⟩:=k;rw[b.1,Yy a c]
def Y4{spec}(c:∀f vs v,spec f vs=some v->f≠hb)(h:∀f vs v,spec f vs=some v->Io P Γ f (spec f)):Gb P Γ (Pk spec):=by
 intro f args bx oc q os bx' oc' b;unfold Pk at b;split at b
 case h_2=>cases b
 obtain⟨v,p,b⟩:=qm b;cases b;obtain⟨us,g,a⟩:=qb p;obtain⟨i,j⟩:=h f us v a;intro w Fr β vs d;refine enters_of i (c f us v a) ?_;obtain rfl:=Yy g d.args;obtain⟨k,l⟩:=j _ v a;refine(l w d.g).mono ?_;rintro e w' ⟨rfl,n⟩;obtain⟨R,o⟩:=d.rel.grow n (Fr':=Fr) fun _ _=>rfl
 exact⟨v,Fr,β,rfl,by simp[Rc,Rd,k],R,o,(fun L h=>by cases h),fun h=>by cases h⟩
def Rn(x:Option (Out×St))(Q:Out->St->Prop):Prop:=∃o s,x=some (o,s)/\Q o s
def Rn.mono{x}{Q R}(h:Rn x Q)(k:∀o s,Q o s->R o s):Rn x R:=by
 obtain⟨o,s,a,b⟩:=h;exact⟨o,s,a,k o s b⟩
def ia:Nat:=2^64
def Im{p:Prop}(h:p:=by unfold ia;omega):p:=h
end ya

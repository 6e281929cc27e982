/- Texts of this proof, merged. -/
import Derived.Test.YtglaihdcndcmkaaGreatDoorRa
import Derived.RangeFuncIn
import Derived.Orders
import Derived.ReadAgain
import Derived.ChangeSame
import Derived.ChangeReads
import Derived.DataReads
import Derived.WideShapes
set_option linter.all false
open Go Go.RowKit
set_option maxHeartbeats 4000000
namespace wa
structure Ze where
 D:Nat→Prop
 G:World→Prop
 lt:∀ w,G w→∀ g,D g→g<w.heap.size
 uf:∀ w w',G w→(∀ g,D g→w'.heap[g]? =w.heap[g]?)→G w'
def th:Act:=⟨#[],[]⟩
def Wg(bx:Ha)(oc:List Loc):St:=⟨[],oc,[],bx⟩
def td(w:World)(β:List Nat)(oc:List Loc)(g:Nat):Prop:=g∈β\/∃L∈oc,∃v,Ga th w β L=some v/\v.ownBlock=some g
structure Nl (P:Program) (Γ:Ze) (w:World) (Fr:Nat→Nat) (β:List Nat) (args:List PV) (vs:List Value) (bx:Ha) (oc:List Loc):Prop where
 g:Γ.G w
 args:sa w Fr β args vs
 rel:Rel P [] w.heap.size (td w β oc) w Fr 0 (Wg bx oc) th w Fr β
 cells:∀ L∈oc,Ca L=true
 Nh:∀ g,Γ.D g→¬ td w β oc g
structure di (P:Program) (w:World) (Fr:Nat→Nat) (β:List Nat) (oc:List Loc) (vs':List PV) (os:Bool) (bx':Ha) (oc':List Loc) (v:Value) (w':World) (Fr':Nat→Nat) (β':List Nat):Prop where
 rd:Rd w' Fr' β' (Nc vs') v
 rel:Rel P [] w.heap.size (td w β oc) w Fr 0 (Wg bx' oc') th w' Fr' β'
 le:Le w Fr β w' Fr' β'
 cells:∀ L∈oc',Ca L=true
 own:os=true→Sf P w' Fr' (Nc vs') v∧∀ g,v.ownBlock=some g→(w.heap.size≤g∨td w β oc g)∧g ∉ β'∧∀ L∈oc',∀ u,Ga th w' β' L=some u→u.ownBlock≠some g
def ij(P:Program)(f:FuncId):Bool:=match P.funcs[f]? with
 |some fn=>fn.name != "runtime.NumGoroutine" &&fn.body.isSome
 |none=>false
def Enters(P:Program)(f:FuncId)(vs:List Value)(w:World)(R:Ending->World->Prop):Prop:=
 if f=hb then∃l az r,vs=.func (.yield l) #[] #[]::az/\w.heap[l]?=some (.loop r)/\az.length=r.params.size/\
  RoundIn Fence.wide 0 P l r.fn ((r.params.zip az.toArray).foldl (fun tmps(t,a)=>tmps.setIfInBounds t a) r.tmps) r.assign r.body w R
 else ij P f=true/\Calls P f vs.toArray w R
theorem Enters.mono{P}{f}{vs}{w}{R b}(h:Enters P f vs w R)(k:∀e w',R e w'->b e w'):Enters P f vs w b:=by
 unfold Enters at h⊢;split
 ·rename_i a
  rw[if_pos a]at h;obtain⟨l,az,r,c,d,g,i⟩:=h;exact⟨l,az,r,c,d,g,i.mono k⟩
 ·rename_i a
  rw[if_neg a]at h;exact⟨h.1,h.2.mono k⟩
def enters_of{P}{f}{vs}{w}{R}(h:ij P f=true)(a:f≠hb)(k:Calls P f vs.toArray w R):Enters P f vs w R:=by
 grind [Enters]
def dc(P:Program)(Γ:Ze)(cf:Callee):Prop:=∀f args bx oc a os bx' oc',cf f args bx oc=some (a,os,bx',oc')->∀w Fr β vs,Nl P Γ w Fr β args vs bx oc->
 Enters P f vs w fun e w'=>∃v Fr' β',e=.returned v/\di P w Fr β oc a os bx' oc' v w' Fr' β'
section
variable {P:Program} {w w':World} {Fr Fr':Nat→Nat} {β β':List Nat} {T:List Deferred} {base nt:Nat} {M:Nat→Prop} {w0:World} {F0:Nat→Nat} {st st':St} {a a':Act} {cf:Callee}
mutual
theorem WQ:∀(p:PV)(v:Value),p.pl=true->Rd w Fr β p v->Rd w Fr β' p v
 | .hd,_,h,_=>by cases h
 | .flat u,v,_,k=>by grind [Rd]
 | .ha n cs,v,h,k=>by
   obtain⟨b,d,a,e,i⟩:=k;refine⟨b,d,a,e,i.imp id ?_⟩;rintro⟨g,o,vs,j,hr,hs,c⟩;exact⟨g,o,vs,j,hr,Sq cs vs h hs,c⟩
 | .agg cs,v,h,k=>by
   obtain⟨vs,a,hs,c⟩:=k;exact⟨vs,a,Sq cs vs h hs,c⟩
 | .Mb cs,v,h,k=>by
   obtain⟨vs,a,hs⟩:=k;exact⟨vs,a,Sq cs vs h hs⟩
 | .ptr b o,v,h,k=>by cases h
 | .xd cs,v,h,k=>by
   obtain⟨g,o,vs,a,hr,hs,c⟩:=k;exact⟨g,o,vs,a,hr,Sq cs vs h hs,c⟩
 | .fb f cs,v,h,k=>by cases h
 | .Ma b,v,h,k=>by cases h
 | .se _ _ _,v,h,k=>by cases h
 | .lp _ _ _ _ _,v,h,k=>by cases h
theorem Sq:∀(ps:List PV)(vs:List Value),gc ps=true->sa w Fr β ps vs->sa w Fr β' ps vs
 |[],vs,_,k=>by grind [sa]
 |p::ps,vs,h,k=>by
  simp only[gc,Vc]at h;obtain⟨v,r,a,e,i⟩:=k;exact⟨v,r,a,WQ p v h.1 e,Sq ps r h.2 i⟩
end
theorem zdz:∀(vs),gc vs=true->(Nc vs).pl=true
 |[],_=>rfl
 |[v],h=>by grind [gc,Nc]
 |v::u::r,h=>h
theorem Is{base}{w}:Marks [] base w []:=⟨[],List.nodup_nil,rfl,fun D h=>by cases h⟩
def jH(w)(Fr):Rel P [] w.heap.size (td w [] []) w Fr 0 (Wg [] []) th w Fr []:=
 ⟨fun i=>by simp[Wg,look,Rd],rfl,Is,⟨rfl,fun b cs h=>by grind [Wg]⟩,List.nodup_nil,(fun L h=>by cases h),(fun L h=>by cases h),(fun L h=>by cases h),(fun p h=>by cases h),(fun g h=>by
  rcases h with h|⟨L,h,_⟩
  ·cases h
  ·cases h),fun _ _ _=>⟨rfl,rfl⟩,la _,rfl,rfl,rfl⟩
def Kn{g}:¬td w [] [] g:=by
 rintro(h|⟨L,h,_⟩)<;>cases h
theorem Zh{L}(h:Ca L=true):Ga a w β L=Ga th w β L:=by
 cases L with
 |slot i=>cases h
 |cell b j=>rfl
theorem Pz{L}(h:Ca L=true){oc}:ab st L=ab (Wg st.bx oc) L:=by
 cases L with
 |slot i=>cases h
 |cell b j=>rfl
def Rel.boxes(R:Rel P T base M w0 F0 nt st a w Fr β):Rel P [] w.heap.size (td w β (st.ow.filter Ca)) w Fr 0 (Wg st.bx (st.ow.filter Ca)) th w Fr β:=by
 have b:∀L,L∈st.ow.filter Ca->L∈st.ow/\Ca L=true:=fun L h=>by grind
 refine⟨fun i=>by simp[Wg,look,Rd],rfl,Is,R.bx,R.nd,fun L d=>?_,fun L d q o ra v t g e j=>?_,fun L d v g e=>?_,(fun p h=>by cases h),fun g r=>.inr ?_,fun _ _ _=>⟨rfl,rfl⟩,la _,rfl,rfl,rfl⟩
 ·obtain⟨c,k⟩:=b L d
  obtain⟨v,p,l,n,u⟩:=R.own L c
  grind [Zh,Pz]
 ·obtain⟨c,k⟩:=b L d
  obtain⟨l,n⟩:=b q o;rw[<-Zh (a:=a) k]at e;rw[<-Zh (a:=a) n]at j;exact R.sep L c q l ra v t g e j
 ·obtain⟨c,k⟩:=b L d
  rw[<-Zh (a:=a) k]at e;exact R.out L c v g e
 ·exact r
theorem bs{f}(b:ij P f=true){args}:(callFunc f args).run P w=.ok (.enter f args) w:=by
 unfold ij at b;split at b
 ·rename_i fn a
  have c:fn.body.isNone=false:=by cases h:fn.body<;>simp_all
  simp only[callFunc,Qb];show(Result.andThen (.ok P w) _:Result Next)=_;simp only[Tb,a,c];simp_all
 grind
def Rel.UI(R:Rel P T base M w0 F0 nt st a w Fr β){d}{p}{v}(t:a.tmps.getD d undef=v)(B:look st.sl d=p)(A:Sf P w Fr p v)
 (z:∀g,v.ownBlock=some g->(base<=g\/M g)/\g∉β/\∀L∈st.ow,L≠.slot d->∀u,Ga a w β L=some u->u.ownBlock≠some g):Rel P T base M w0 F0 nt {st with ow:=.slot d::st.ow} a w Fr β:=by
 have x:Ga a w β (.slot d)=some v:=by simp only[Ga,t]
 have r:∀L,ab {st with ow:=.slot d::st.ow} L=ab st L:=fun L=>WR rfl rfl
 refine⟨R.sl,R.nt,R.df,R.bx,R.nd,fun L b=>?_,fun L b n i ra u y g h l c k=>?_,fun L b u g h c=>?_,R.al,fun g c=>?_,R.old,R.ge,R.os,R.tape,R.output⟩
 ·rcases Wb.1 b with rfl|b
  ·grind [ab]
  ·obtain⟨u,q,j,o,C⟩:=R.own L b
   grind
 ·by_cases e:L=.slot d
  ·grind
  ·have j:=(Wb.1 b).resolve_left e
   by_cases o:n=.slot d
   ·grind
   ·exact R.sep L j n ((Wb.1 i).resolve_left o) ra u y g h l c k
 ·by_cases e:L=.slot d
  ·grind
  ·exact R.out L ((Wb.1 b).resolve_left e) u g h c
 ·rcases c with c|⟨L,b,u,h,c⟩
  ·exact R.may g (.inl c)
  ·by_cases e:L=.slot d
   ·grind
   ·exact R.may g (.inr ⟨L,(Wb.1 b).resolve_left e,u,h,c⟩)
theorem oC{S}{dst}{f}{args}{Z}{os}{bx'}{oc'}{v}(Q:di P w Fr β (st.ow.filter Ca) Z os bx' oc' v w' Fr' β')(hs:Dc (fun _ _ _ _=>some (Z,os,bx',oc')) st dst f args=some st')(hdZ:∀d,dst=some d->d<S.nt)
 (R:Rel P S.T S.base S.M S.w0 S.F0 S.nt st a w Fr β) (hlZ:Le S.sw S.sF S.sβ w Fr β) {K:Act->World->Prop} (hKZ:∀a' w',Rl P S st' a' w'->K a' w'):K (a.put dst v) w':=by
 unfold Dc at hs
 ·simp only[kd,Xb]at hs
  have B:∀L,L∈st.ow.filter Ca->L∈st.ow/\Ca L=true:=fun L h=>by grind
  have X:∀g,td w β (st.ow.filter Ca) g->S.base<=g\/S.M g:=fun g c=>R.may g (c.imp id fun⟨L,k,v,l,h3Z⟩=>⟨L,(B L k).1,v,by grind [Zh],h3Z⟩)
  have A:∀L∈st.ow,Ca L=false->∀u g,Ga a w β L=some u->u.ownBlock=some g->g<w.heap.size/\¬td w β (st.ow.filter Ca) g:=fun L y hcZ u g t c=>by
   obtain⟨I,p,H,M,U⟩:=R.own L y;rw[t]at H;cases H;refine⟨U.lt c,?_⟩;rintro(h|⟨C,k,I,l,h3Z⟩)
   ·exact R.out L y u g t c h
   ·obtain⟨O,T⟩:=B C k
    rw[<-Zh (a:=a) T]at l;exact R.sep L y C O (fun e=>by grind) u I g t l c h3Z
  have G:∀L,Ca L=false->Ga a w' β' L=Ga a w β L:=fun L hcZ=>by
   cases L with
   |slot i=>rfl
   |cell b j=>cases hcZ
  have Y:oc'.filter Ca=oc':=Aw.2 Q.cells;rw[Y]at hs;obtain⟨N,r⟩:∃N:St,N={st with bx:=bx',ow:=oc'++st.ow.filter (fun L=>!Ca L),al:=st.al.filter fun p=>!Ca p.2}:=⟨_,rfl⟩;have o:∀L,L∈N.ow->(L∈oc'/\Ca L=true)\/(L∈st.ow/\Ca L=false):=fun L y=>by
   grind
  have E:∀L u,Ca L=true->Ga a w' β' L=some u->Ga th w' β' L=some u:=fun L u hcZ h=>by grind [Zh]
  have RmZ:Rel P S.T S.base S.M S.w0 S.F0 S.nt N a w' Fr' β':=by
   have hdf:Marks S.T S.base w' a.defers:=by
    obtain⟨DsZ,d1Z,d2Z,d3Z⟩:=R.df;refine⟨DsZ,d1Z,d2Z,fun D hDZ=>⟨(d3Z D hDZ).1,?_⟩⟩;have x:=(d3Z D hDZ).2;rw[(Q.rel.old D (xg.1 x).1 fun W=>?_).1]
    ·exact x
    ·rcases W with W|⟨L,y,u,t,z⟩
     ·obtain⟨obZ,H,M⟩:=R.bx.at W
      grind
     ·obtain⟨I,p,H,_,n,cs,_,M⟩:=R.own L (B L y).1
      rw[Zh (B L y).2,t]at H;cases H;rcases M with rfl|⟨g'Z,cap,cur,e,szZ,rfl,U,_⟩
      ·cases z
      ·cases z<;>grind
   refine⟨fun i=>by subst r;exact(R.sl i).mono Q.le,R.nt,hdf,by subst r;exact Q.rel.bx,Q.rel.nd,fun L y=>?_,fun L y C V ra u I g t F c J=>?_,fun L y u g t c=>?_,fun q hqZ=>?_,fun g c=>?_,fun b hbZ hMZ=>?_,Ob R.ge Q.rel.ge,Q.rel.os.trans R.os,Q.rel.tape.trans R.tape,Q.rel.output.trans R.output⟩
   ·rcases o L y with⟨k,l⟩|⟨k,l⟩
    ·obtain⟨u,p,H,M,U⟩:=Q.rel.own L k
     refine⟨u,p,by grind [Zh],?_,U⟩;subst r;rw[Pz l (oc:=oc')];exact M
    ·obtain⟨u,p,H,M,U⟩:=R.own L k
     refine⟨u,p,ia,?_,U.kept fun g c=>?_⟩
     ·subst r
      cases L with
      |slot i=>exact M
      |cell b j=>cases l
     ·obtain⟨O,T⟩:=A L k l u g H c
      exact Q.rel.old g O T
   ·rcases o L y with⟨k,l⟩|⟨k,l⟩
    ·rcases o C V with⟨z,x⟩|⟨z,x⟩
     ·exact Q.rel.sep L k C z ra u I g (E L u l t) (E C I x F) c J
     ·rw[G C x]at F
      obtain⟨O,T⟩:=A C z x I g F J;rcases Q.rel.may g (.inr ⟨L,k,u,E L u l t,c⟩)with h|h
      ·omega
      grind
    ·rw[G L l]at t
     obtain⟨O,T⟩:=A L k l u g t c;rcases o C V with⟨z,x⟩|⟨z,x⟩
     ·rcases Q.rel.may g (.inr ⟨C,z,I,E C I x F,J⟩)with h|h
      ·omega
      grind
     ·rw[G C x]at F
      exact R.sep L k C z ra u I g t F c J
   ·rcases o L y with⟨k,l⟩|⟨k,l⟩
    ·exact Q.rel.out L k u g (E L u l t) c
    ·intro W
     rcases Q.rel.may g (.inl W)with h|h<;>grind
   ·have x:q∈st.al/\Ca q.2=false:=by subst r;simpa using hqZ
    rw[G _ x.2];exact R.al q x.1
   ·rcases c with c|⟨L,y,u,t,c⟩
    ·rcases Q.rel.may g (.inl c)with h|h
     ·exact .inl (Ob R.ge h)
     grind
    ·rcases o L y with⟨k,l⟩|⟨k,l⟩
     ·rcases Q.rel.may g (.inr ⟨L,k,u,E L u l t,c⟩)with h|h
      ·exact .inl (Ob R.ge h)
      grind
     ·rw[G L l]at t
      exact R.may g (.inr ⟨L,k,u,t,c⟩)
   ·obtain⟨O,T⟩:=Q.rel.old b (Qf hbZ R.ge) fun h=>by
     grind
    obtain⟨m3Z,x⟩:=R.old b hbZ hMZ
    grind
  rw[<-r]at hs;cases dst with
  |none=>cases hs;exact hKZ _ _ ⟨Fr',β',RmZ,hlZ.trans Q.le⟩
  |some d=>
   dsimp only at hs;have z:=RmZ.put (hdZ d rfl) Q.rd;have F:d<a.tmps.size:=by rw[R.nt];exact hdZ d rfl
   split at hs
   ·rename_i x
    cases hs;obtain⟨H,M⟩:=Q.own x;refine hKZ _ _ ⟨Fr',β',z.UI (d:=d) (by grind [ck]) (by simp[St.put,oe]) H fun g c=>?_,hlZ.trans Q.le⟩;obtain⟨O,T,m3Z⟩:=M g c;refine⟨O.elim (fun h=>.inl (Ob R.ge h)) (fun h=>X g h),T,fun L y ra u t=>?_⟩;obtain⟨n1,n2⟩:=ml.1 y
    grind [Dl]
   ·cases hs
    exact hKZ _ _ ⟨Fr',β',z,hlZ.trans Q.le⟩
def yx{Γ}(l:dc P Γ cf){S}{dst}{f}{args}{vs}(hs:Dc cf st dst f args=some st')(y:∀d,dst=some d->d<S.nt)
 (R:Rel P S.T S.base S.M S.w0 S.F0 S.nt st a w Fr β) (z:Le S.sw S.sF S.sβ w Fr β) (c:sa w Fr β args vs) (n:Γ.G w) (q:∀g,Γ.D g->g<S.base/\¬S.M g) {K:Act->World->Prop} (x:∀a' w',Rl P S st' a' w'->K a' w'):
 Enters P f vs w fun e w'=>∃v,e=.returned v/\K (a.put dst v) w':=by
 unfold Dc at hs
 ·have j:=hs
  obtain⟨⟨k,os,bx',oc'⟩,p,hs⟩:=qm hs;have o:Dc (fun _ _ _ _=>some (k,os,bx',oc')) st dst f args=some st':=by unfold Dc;rw[p]at j;exact j
  have i:=l f args st.bx (st.ow.filter Ca) k os bx' oc' p;have b:∀L,L∈st.ow.filter Ca->L∈st.ow/\Ca L=true:=fun L h=>by grind
  have r:∀g,td w β (st.ow.filter Ca) g->S.base<=g\/S.M g:=fun g n=>R.may g (n.imp id fun⟨L,t,v,A,u⟩=>⟨L,(b L t).1,v,by grind [Zh],u⟩)
  refine(i w Fr β vs ⟨n,c,R.boxes,fun L h=>(b L h).2,fun g B C=>?_⟩).mono fun e w' h=>?_
  ·grind
  obtain⟨v,Fr',β',rfl,Q⟩:=h;exact⟨v,rfl,oC Q o y R z x⟩
theorem pW{Γ}(j:dc P Γ cf){S}{dst}{f}{args}{vs}(hs:Sd cf st dst f args=some st')(u:∀d,dst=some d->d<S.nt)
 (R:Rel P S.T S.base S.M S.w0 S.F0 S.nt st a w Fr β) (q:Le S.sw S.sF S.sβ w Fr β) (b:sa w Fr β args vs) (l:Γ.G w) (c:∀g,Γ.D g->g<S.base/\¬S.M g) {K:Act->World->Prop} (p:∀a' w',Rl P S st' a' w'->K a' w'):
 Enters P f vs w fun e w'=>∃v,e=.returned v/\K (a.put dst v) w':=by
 unfold Sd at hs;split at hs
 case isFalse=>exact yx j hs u R q b l c p
 rename_i x;obtain⟨⟨o,os,bx',oc'⟩,C,hs⟩:=qb hs;dsimp only at hs;split at hs
 case isFalse=>exact yx j hs u R q b l c p
 rename_i r;have i:=j f args [] [] o os bx' oc' C;refine(i w Fr [] vs ⟨l,Sq args vs x b,jH w Fr,(fun L h=>by cases h),fun g _=>Kn⟩).mono fun e w' h=>?_
 obtain⟨v,Fr',β',rfl,Q⟩:=h;have A:Below w.heap.size w w':=⟨Q.rel.os,Q.rel.tape,Q.rel.output,Q.rel.ge,fun k D=>(Q.rel.old k D Kn).1⟩;have B:∀g,g<w.heap.size->Fr' g=Fr g:=fun g l=>(Q.rel.old g l Kn).2
 have t:Rd w' Fr' β (Nc o) v:=WQ _ _ (zdz o r) Q.rd;obtain⟨z,n⟩:=R.grow A B;refine⟨v,rfl,?_⟩;cases dst with
 |none=>cases hs;exact p _ _ ⟨Fr',β,z,q.trans n⟩
 |some d=>
  dsimp only at hs;split at hs
  ·rename_i y
   cases hs;obtain⟨E,F⟩:=Q.own y;exact p _ _ ⟨Fr',β,R.yc A B (u d rfl) t E (fun g l=>((F g l).1).resolve_right Kn),q.trans n⟩
  ·cases hs
   exact p _ _ ⟨Fr',β,z.put (u d rfl) t,q.trans n⟩
def M9{l}{o}{b j}(h:b≠l):(w.putObj l o).cell? ⟨b,j,none⟩=w.cell? ⟨b,j,none⟩:=by
 grind [World.cell?,World.putObj_heap_other]
def Rel.uH(R:Rel P T base M w0 F0 nt st a w Fr β){b g}{f k f' k'}{s s'}{live live'}{z snap'}{r'}{Q}(K:st.bx[b]?=some (Q,[.lp f k s live z]))(E:β[b]?=some g)
 (h:Le w Fr β (w.putObj g (.loop r')) Fr β->zr P (w.putObj g (.loop r')) Fr β f' k' s' live' snap' g):
 Rel P T base M w0 F0 nt {st with bx:=st.bx.set b (0,[.lp f' k' s' live' snap'])} a (w.putObj g (.loop r')) Fr β/\Le w Fr β (w.putObj g (.loop r')) Fr β:=by
 have t:g∈β:=Ah E;obtain⟨X,J,hF,D⟩:=R.bx.2 b _ K;rw[E]at J;cases J;have F:∃r,w.heap[g]?=some (.loop r):=by
  rcases D with⟨vs,e,_,N,_,_⟩|⟨_,_,_,_,_,_,r,C,_⟩
  ·grind [sa,Rd]
  ·grind
 have d:∀k,k≠g->(w.putObj g (.loop r')).heap[k]?=w.heap[k]?:=fun k l=>World.putObj_heap_other l
 have y:Le w Fr β (w.putObj g (.loop r')) Fr β:=⟨da,fun _ _=>la _,fun k j l Z=>M9 fun e=>by grind,fun _ _ h=>h,fun k x l=>by
  grind [World.putObj_heap_same]⟩
 have n:∀L v,Ga a w β L=some v->Ga a (w.putObj g (.loop r')) β L=some v:=fun L v U=>by
  cases L<;>grind [Ga,World.cell?]
 have G:∀L∈st.ow,∀v,Ga a w β L=some v->∀p,ab st L=some p->ab {st with bx:=st.bx.set b (0,[.lp f' k' s' live' snap'])} L=some p:=fun L _ v U p hpZ=>by
  cases L<;>grind [Ga,World.cell?,ab]
 refine⟨R.next y (fun i=>(R.sl i).mono y) R.nt rfl ⟨by simp[R.bx.1],fun I B c=>?_⟩ R.nd (fun g h=>.inl h) some (fun L A=>?_) (fun L _ O _ ra W h Y=>ra ia) (fun L _ O _ _ h=>by cases h) (fun q S=>n _ _ (R.al q S)) (fun k _ l _=>⟨d k fun e=>l (e▸t),rfl⟩) rfl rfl rfl,y⟩
 ·by_cases N:I=b
  ·subst N
   rw[yg (qg K).1]at c;cases c;exact⟨g,E,hF,.inr ⟨_,_,_,_,_,rfl,h y⟩⟩
  ·rw[HA (yi N)]at c
   obtain⟨C,o,V,H⟩:=R.bx.2 I B c;have ra:C≠g:=fun e=>by
    grind [List.getElem?_inj,nd]
   exact⟨C,o,V,H.kept y (d C ra)⟩
 ·obtain⟨u,q,o,H,C⟩:=R.own L A
  refine⟨u,q,n L u o,G L A u o q H,C.kept fun k l=>⟨d k fun e=>?_,rfl⟩,fun k l=>.inr ⟨L,A,rfl,u,o,l⟩⟩;exact R.out L A u k o l (e▸t)
def Rel.zcD{D}{l:List Nat}(R:Rel P T base M w0 F0 nt st a w Fr β)(Y:a.defers=mark D::(l.map mark++T)):
 w.heap[D]?=some (.deferred (some []))/\Rel P T base M w0 F0 nt st {a with defers:=l.map mark++T} (w.putObj D (.deferred none)) Fr β/\Le w Fr β (w.putObj D (.deferred none)) Fr β:=by
 obtain⟨N,U,I,B⟩:=R.df;rw[Y]at I;obtain rfl:D::l=N:=nz I;obtain⟨C,y⟩:∃C,l.map mark++T=C:=⟨_,rfl⟩;rw[y];have e2:=y.symm
 ·obtain⟨hbD,V⟩:=B D da
  have c:∀k,k≠D->(w.putObj D (.deferred none)).heap[k]?=w.heap[k]?:=fun k F=>World.putObj_heap_other F
  have H:∀g∈β,g≠D:=fun g r e=>by
   obtain⟨o,J,z⟩:=R.bx.at r
   grind
  have u:∀g j,(w.putObj D (.deferred none)).cell? ⟨g,j,none⟩=w.cell? ⟨g,j,none⟩:=fun g j=>by
   grind [World.cell?,World.putObj_heap_same]
  have G:Le w Fr β (w.putObj D (.deferred none)) Fr β:=⟨da,fun _ _=>la _,fun k j _ _=>u k j,fun _ _ h=>h,fun k x F=>⟨x,(c k fun e=>by grind).trans F⟩⟩;have d:∀L,Ga {a with defers:=C} (w.putObj D (.deferred none)) β L=Ga a w β L:=fun L=>by
   cases L<;>grind [Ga]
  refine⟨V,⟨fun i=>(R.sl i).mono G,R.nt,⟨l,(List.nodup_cons.1 U).2,e2,fun A W=>⟨(B A ia).1,(c A fun e=>?_).trans (B A ia).2⟩⟩,R.bx.kept G fun g r=>⟨c g (H g r),rfl⟩,R.nd,fun L t=>?_,fun L t O E ra v v'Z g=>by rw[d,d];exact R.sep L t O E ra v v'Z g,fun L t v g=>by rw[d];exact R.out L t v g,fun q hqZ=>by rw[d];exact R.al q hqZ,
   fun g r=>R.may g (r.imp id fun⟨L,t,v,J,z⟩=>⟨L,t,v,ia,z⟩),fun b Z X=>?_,by simpa using R.ge,R.os,R.tape,R.output⟩,G⟩
  ·grind
  ·obtain⟨v,p,J,z,K⟩:=R.own L t
   refine⟨v,p,ia,z,K.kept fun g r=>⟨c g fun e=>?_,rfl⟩⟩;obtain⟨n,cs,_,k4Z⟩:=K;rcases k4Z with rfl|⟨g'Z,Q,S,e'Z,szZ,rfl,k5Z,_⟩
   ·cases r
   ·cases r<;>grind
  ·rw[c b aa];exact R.old b Z X
end
def Ex(P:Program)(ali:List Nat)(o:Oper):Option Ea:=match o.dst,o.op with
 |some d,.move (.tmp s)=>if d∈ali then some (.mvA s)else none
 |some d,.load t x=>if d∈ali/\Ae P t=some false/\ug P t=some 1 then(zb x).map .loadA else none
 |_,_=>none
def Qo(P:Program):Op->Option Ea
 | .call {callee:=.value (.func f),args,.. }=>if f=hb then none else(Qr args).map fun xs=>.call f xs
 | .call {callee:=.value (.tmp t),args,.. }=>(Qr args).map fun xs=>.callv (.t t) xs
 |_=>none
def CT:Ea:=.qk (.c .hd)
def nn(P:Program)(ali:List Nat)(o:Oper):Option Ea:=match Ex P ali o with
 |some c=>some c
 |none=>match mg P o.op with
  |some c=>some c
  |none=>match mq P o.op with
   |some c=>some c
   |none=>match Qo P o.op with
    |some c=>some c
    |none=>some CT
def Cu(ops:Array Oper):Option (Nat×Bool)->Option (Option (Nat×Bool))
 |none=>some none
 |some (j,a)=>((ops[j]?).bind (·.dst)).map fun s=>some (s,a)
def Mh(P:Program)(nt:Nat)(ops:Array Oper)(ali:List Nat)(o:Oper):Option Qa:=
 if o.dst.all (·<nt)then(nn P ali o).bind fun c=>(Cu ops o.guard).map fun g=>⟨o.dst,g,c⟩else none
section
variable {P:Program} {w w':World} {r:Option Nat} {Fr Fr':Nat→Nat} {β β':List Nat} {T:List Deferred} {base nt:Nat} {M:Nat→Prop} {w0:World} {F0:Nat→Nat} {st st':St} {a a':Act} {cf:Callee} {Γ:Ze} {S:S0}
structure Good (Γ:Ze) (S:S0):Prop where
 g:Γ.G S.w0
 Nh:∀ g,Γ.D g→g<S.base∧¬ S.M g
def Good.at(h:Good Γ S)(R:Rel P S.T S.base S.M S.w0 S.F0 S.nt st a w Fr β):Γ.G w:=Γ.uf _ _ h.g fun g b=>(R.old g (h.Nh g b).1 (h.Nh g b).2).1
theorem r6{o:Oper}{t}{x}{y}(L:o.op=.load t x)(H:Ae P t=some false)(J:ug P t=some 1)(M:zb x=some y)(hs:na cf st o.dst (.loadA y)=some st')(G:∀d,o.dst=some d->d<S.nt)(hr:Rl P S st a w){K}{Q}
 (F:∀a' w',Rl P S st' a' w'->K a' w'):o.wpIn (fw r) 0 P a w K Q:=by
 obtain⟨Fr,β,R,I⟩:=hr;obtain⟨d,c,k⟩:=qb hs;have l:=Ub R.sl M;split at k
 ·rename_i b g e1
  rw[e1]at l;obtain⟨B,q,l⟩:=l;obtain⟨p,z,rfl⟩:=qm k;obtain⟨cs,h,z⟩:=qb z;obtain⟨h,_,V,vs,e,A,C,D,T,U,_⟩:=R.bx.cells h;rw[q]at A;cases A;obtain⟨v,N,O⟩:=D.get g p z;have n:w.cell? ⟨B,g,none⟩=some v:=by
   rw[cell_of_row _ _ _ _ _ _ C];simpa using N
  have i:(execOp a.eval o).run P w=.ok (.value v) w:=by
   have E:=aA (vs:=[v]) H J rfl (w:=w) (b:=B) (o:=g) (fun j u W=>by
    grind) (.inr rfl)
   unfold execOp;rw[L];show(do pure (Next.value (<-Instr.loadAt t (a.eval x))):Sem Next).run P w=_;simp only[Instr.loadAt,Qb,l,Instr.sureAddr,Bh,Tb,E];rfl
  refine nh i ?_;rw[c];refine F _ _ ⟨Fr,β,R.VR (G d c) O rfl ?_,I⟩
  grind [Ga]
 grind
theorem s6{o:Oper}{t}{x}{y}(hoZ:o.op=.load t x)(M:Ae P t=some false)(hnZ:ug P t=some 1)(hyZ:zb x=some y)(hs:na cf st o.dst (.loadM y)=some st')(hdZ:∀d,o.dst=some d->d<S.nt)(hr:Rl P S st a w){K}{Q}
 (hKZ:∀a' w',Rl P S st' a' w'->K a' w'):o.wpIn (fw r) 0 P a w K Q:=by
 obtain⟨Fr,β,R,hlZ⟩:=hr;obtain⟨d,A,c⟩:=qb hs;have J:=Ub R.sl hyZ;split at c
 case h_2=>cases c
 rename_i b l e1;rw[e1]at J;obtain⟨T,G,J⟩:=J;obtain⟨p,I,c⟩:=qb c;split at c
 case isFalse=>cases c
 rename_i k;cases c;obtain⟨cs,C,I⟩:=qb I;obtain⟨C,_,g'Z,vs,e,O,Z,b3Z,b4Z,b5Z,_⟩:=R.bx.cells C;rw[G]at O;cases O;obtain⟨v,k1Z,k2Z⟩:=b3Z.get l p I;have B:w.cell? ⟨T,l,none⟩=some v:=by
  rw[cell_of_row _ _ _ _ _ _ Z];simpa using k1Z
 have H:(execOp a.eval o).run P w=.ok (.value v) w:=by
  have X:=aA (vs:=[v]) M hnZ rfl (w:=w) (b:=T) (o:=l) (fun j u hjZ=>by
   grind) (.inr rfl)
  unfold execOp;rw[hoZ];show(do pure (Next.value (<-Instr.loadAt t (a.eval x))):Sem Next).run P w=_;simp only[Instr.loadAt,Qb,J,Instr.sureAddr,Bh,Tb,X];rfl
 refine nh H ?_;rw[A];have F:=hdZ d A;have E:d<a.tmps.size:=by rw[R.nt];exact F
 have i:=R.put F (d:=d) k2Z;have z:Ga a w β (.cell b l)=some v:=by simp only[Ga,G,Ra];exact B
 have N:∀L,L∈Ta d st.ow->Ga (a.put (some d) v) w β L=Ga a w β L:=fun L n=>Dl E (ml.1 n).2
 have Y:Rel P S.T S.base S.M S.w0 S.F0 S.nt {(st.put d p)with ow:=(Ta d st.ow).filter (·≠.cell b l),al:=[]} (a.put (some d) v) w Fr β:=
  ⟨i.sl,i.nt,i.df,i.bx,i.nd,fun L n=>i.own L (Hc.1 n).1,fun L n X j=>i.sep L (Hc.1 n).1 X (Hc.1 j).1,fun L n=>i.out L (Hc.1 n).1,(fun q hqZ=>by cases hqZ),fun g M=>i.may g (M.imp id fun⟨L,n,h⟩=>⟨L,(Hc.1 n).1,h⟩),i.old,i.ge,i.os,i.tape,i.output⟩
 obtain⟨v'Z,p'Z,V,W,m3Z⟩:=R.own _ k;rw[z]at V;cases V;simp only[ab,C,Ra,I,Xb]at W;subst W;refine hKZ _ _ ⟨Fr,β,Y.UI (d:=d) (by rw[ck a d v d E,if_pos rfl]) (by simp[St.put,oe]) m3Z fun g D=>?_,hlZ⟩;refine⟨R.may g (.inr ⟨_,k,_,z,D⟩),R.out _ k _ g z D,fun L n ra u U e=>?_⟩;obtain⟨n1,n2⟩:=Hc.1 n;have n3:L≠.cell b l:=by simpa using n2
 rw[N L n1]at U;exact R.sep _ k L (ml.1 n1).1 (yi n3) _ u g z U D e
theorem O6{o:Oper}{s:Nat}(j:o.op=.move (.tmp s))(hs:na cf st o.dst (.mvA s)=some st')(h:∀d,o.dst=some d->d<S.nt)(hr:Rl P S st a w){K}{Q}
 (g:∀a' w',Rl P S st' a' w'->K a' w'):o.wpIn (fw r) 0 P a w K Q:=by
 obtain⟨Fr,β,R,i⟩:=hr;obtain⟨d,b,c⟩:=qb hs;split at c
 ·cases c
 ·cases c
  have e:(execOp a.eval o).run P w=.ok (.value (a.tmps.getD s undef)) w:=by
   unfold execOp;rw[j];rfl
  refine nh e ?_;rw[b];exact g _ _ ⟨Fr,β,R.VR (h d b) (R.sl s) (by grind [Xd]) rfl,i⟩
def HW{a:Act}{sl}(h:∀i,Rd w Fr β (look sl i) (a.tmps.getD i undef)){l}{ys}(b:Qr l=some ys):sa w Fr β (ys.map (·.ev sl)) (l.map a.eval).toList:=by
 rw[Array.toList_map];exact AC h b
theorem kJ:∀{ys:List X}{sl}{vs},sa w Fr β (ys.map (·.ev sl)) vs->sa w Fr β (ys.map fun x=>(x.ev sl).Hb) vs
 |[],_,_,h=>h
 |y::ys,sl,vs,h=>by
  obtain⟨v,r,a,b,c⟩:=h;exact⟨v,r,a,Rd.Hb _ _ b,kJ c⟩
def Eu{a:Act}{sl}(h:∀i,Rd w Fr β (look sl i) (a.tmps.getD i undef)){l}{ys}(b:Qr l=some ys):sa w Fr β (ys.map fun x=>(x.ev sl).Hb) (l.map a.eval).toList:=kJ (HW h b)
theorem qW(B:dc P Γ cf)(D:Good Γ S){o:Oper}{c}(j:Qo P o.op=some c)(hs:na cf st o.dst c=some st')(E:∀d,o.dst=some d->d<S.nt)(hr:Rl P S st a w){K}{Q}
 (I:∀a' w',Rl P S st' a' w'->K a' w'):o.wpIn (fw r) 0 P a w K Q:=by
 obtain⟨Fr,β,R,J⟩:=hr;obtain⟨dst,op,ty,q,i,guard⟩:=o;have fin:∀(f:FuncId)(args:List PV)(vs:List Value),f≠hb->Sd cf st dst f args=some st'->sa w Fr β args vs->(execOp a.eval ⟨dst,op,ty,q,i,guard⟩).run P w=(callFunc f vs.toArray).run P w->Oper.wpIn (fw r) 0 P ⟨dst,op,ty,q,i,guard⟩ a w K Q:=fun f args vs ra F G H=>by
  have k:=pW B F E R J G (D.at R) D.Nh I;unfold Enters at k;rw[if_neg ra]at k;obtain⟨u,n⟩:=k;have p:(execOp a.eval ⟨dst,op,ty,q,i,guard⟩).run P w=.ok (.enter f vs.toArray) w:=by rw[H,bs u]
  refine⟨fun _ _=>trivial,?_⟩;rw[Oper.semAt_eq _ _ _ fun c j=>by obtain⟨d,E⟩:=Tx j p;cases E];rw[p];refine⟨(fun h=>by cases h),py.2 (n.mono fun e w' h=>?_)⟩
  grind
 cases op with
 |call cl=>
  obtain⟨callee,args,n⟩:=cl;cases callee with
  |invoke r m=>cases j
  |builtin b=>cases j
  |value f=>
   cases f with
   |const v=>cases j
   |global g=>cases j
   |func f=>
    simp only[Qo]at j;split at j
    ·cases j
    rename_i ra;obtain⟨xs,p,rfl⟩:=qm j;refine fin f _ (args.map a.eval).toList ra hs (Eu R.sl p) ?_;show(do let d <-resolve a.eval ⟨.value (.func f),args,n⟩ ty;invoke d.target d.args:Sem Next).run P w=_;simp only[resolve,Deferred.ofValue,Act.eval,Qb,Bh,Tb,invoke];congr 2;apply Sg;simp
   |tmp t=>
    obtain⟨xs,p,rfl⟩:=qm j;simp only[na]at hs;split at hs
    ·rename_i f Oa e1
     split at hs
     ·cases hs
     rename_i ra;have A:=R.sl t;have u:look st.sl t=.fb f Oa:=e1;rw[u]at A;obtain⟨y,z,C⟩:=A;refine fin f _ ((args.map a.eval).toList++y) ra hs ((Eu R.sl p).append C) ?_;show(do let d <-resolve a.eval ⟨.value (.tmp t),args,n⟩ ty;invoke d.target d.args:Sem Next).run P w=_;have:a.eval (.tmp t)=.func (.func f) #[] y.toArray:=z;simp only[resolve,this,Deferred.ofValue,Qb,Bh,Tb,invoke];congr 2;simp
    ·rename_i b e1
     have A:=R.sl t;have u:look st.sl t=.Ma b:=e1;rw[u]at A;have M:=A;obtain⟨g,N,z⟩:=A;have y:sa w Fr β (.Ma b::xs.map fun x=>(x.ev st.sl).Hb) (.func (.yield g) #[] #[]::(args.map a.eval).toList):=by
      simp only[sa];exact⟨_,_,rfl,ia,Eu R.sl p⟩
     have k:=yx B hs E R J y (D.at R) D.Nh I;obtain⟨l,az,C,F,G,H,L⟩:=k;cases F;have p:(execOp a.eval ⟨dst,.call ⟨.value (.tmp t),args,n⟩,ty,q,i,guard⟩).run P w=.ok (.round g C.fn ((C.params.zip (args.map a.eval).toList.toArray).foldl (fun tmps(t,a)=>tmps.setIfInBounds t a) C.tmps) C.assign C.body) w:=by
      rw[<-run_yield G aa];show(do let d <-resolve a.eval ⟨.value (.tmp t),args,n⟩ ty;invoke d.target d.args:Sem Next).run P w=_;have:a.eval (.tmp t)=.func (.yield g) #[] #[]:=z;simp only[resolve,this,Deferred.ofValue,Qb,Bh,Tb,invoke];congr 2;apply Sg;simp
     refine⟨fun _ _=>trivial,?_⟩;rw[Oper.semAt_eq _ _ _ fun c j=>by grind];rw[p];refine⟨(fun h=>by cases h),RoundIn.mono (R:=fun e w'=>∃v,e=.returned v/\K (a.put dst v) w') L fun e w' h=>?_⟩
     grind
    grind
 |_=>cases j
theorem x7(e:dc P Γ cf)(h:Good Γ S){ali}{o}{c}(b:nn P ali o=some c)(hs:na cf st o.dst c=some st')(i:∀d,o.dst=some d->d<S.nt)(hr:Rl P S st a w){K}{Q}
 (g:∀a' w',Rl P S st' a' w'->K a' w'):o.wpIn (fw r) 0 P a w K Q:=by
 unfold nn at b;split at b
 ·grind [Ex,O6,Option.map_eq_some_iff,r6]
 ·split at b
  ·grind [bT]
  ·split at b
   ·grind [J6]
   ·split at b
    ·grind [qW]
    ·cases b;simp[na,CT,eb,X.ev]at hs
theorem Yu{ops}{o}{g}{b}(i:Cu ops o.guard=some g)(d:de st g=some b)(hr:Rl P S st a w):Region.wanted o (yielded ops a.tmps)=b:=by
 obtain⟨Fr,β,R,l⟩:=hr;unfold Cu at i;unfold Region.wanted;split at i
 ·rename_i e;cases i;rw[e];cases d;rfl
 ·rename_i j k e
  rw[e];obtain⟨s,hs,rfl⟩:=qm i;dsimp only;have c:=R.sl s;unfold de at d;dsimp only at d;have n:yielded ops a.tmps j=match a.tmps[s]? with|some (.bool b)=>some b|_=>none:=by
   unfold yielded;rw[hs];rfl
  split at d
  ·rename_i t e1
   cases d;rw[e1]at c;obtain⟨c,_⟩:=zc c;have:a.tmps[s]?=some (.bool t):=by
    rw[Im]at c;cases h:a.tmps[s]? with
    |none=>rw[h]at c;cases c
    |some u=>grind
   grind
  ·rename_i e1
   cases d;rw[e1]at c;simp only[Rd,sa]at c;rw[Im]at c
   grind
  grind
theorem MG(q:dc P Γ cf)(v:Good Γ S){ops}{ali}{o}{c}(e:Mh P S.nt ops ali o=some c)(hs:stepG cf st c=some st')(hr:Rl P S st a w){K}{Q}
 (n:∀a' w',Rl P S st' a' w'->K a' w'):if Region.wanted o (yielded ops a.tmps)then o.wpIn (fw r) 0 P a w K Q else(∀f,o.about P w a.eval=some f->(fw r).fn f)/\K (a.put o.dst undef) w:=by
 unfold Mh at e;split at e
 case isFalse=>cases e
 obtain⟨t,u,e⟩:=qb e;obtain⟨g,l,rfl⟩:=qm e;obtain⟨b,p,hs⟩:=qb hs;rw[Yu l p hr];have j:∀d,o.dst=some d->d<S.nt:=fun d h=>by grind
 cases b with
 |true=>grind [x7]
 |false=>
  cases hs;obtain⟨Fr,β,R,k⟩:=hr;refine⟨fun _ _=>trivial,n _ _ ?_⟩;cases i:o.dst with
  |none=>exact⟨Fr,β,R,k⟩
  |some d=>exact⟨Fr,β,R.put (j d i) (by exact⟨[],rfl,rfl⟩),k⟩
def pq(o:Oper)(c:Qa):Qa:=match o.op with
 | .assign x=>(match zb x with|some y=>{c with op:=.mv y}|none=>c)
 |_=>c
def so(P:Program)(nt:Nat)(ops:Array Oper)(ali:List Nat)(o:Oper)(c:Qa):Prop:=
 Mh P nt ops ali o=some c\/(∃y,c.op=.loadM y/\Mh P nt ops ali o=some {c with op:=.loadA y})\/∃x y,o.op=.assign x/\zb x=some y/\c.op=.mv y/\c.dst=o.dst/\Cu ops o.guard=some c.g/\o.dst.all (·<nt)=true
theorem rY{nt}{ops}{ali}{o}{c}(h:Mh P nt ops ali o=some c):so P nt ops ali o (pq o c):=by
 unfold pq;split
 ·split
  ·right
   grind [Mh,Option.bind_eq_some_iff,Option.map_eq_some_iff]
  ·exact .inl h
 ·exact .inl h
theorem GW{op}{y}(a:mq P op=some (.loadA y)):False:=by
 unfold mq at a;split at a<;>grind [Option.map_eq_some_iff,Option.bind_eq_some_iff]
theorem FW{op}{y}(a:Qo P op=some (.loadA y)):False:=by
 unfold Qo at a
 grind [Option.map_eq_some_iff]
theorem Kz(A:dc P Γ cf)(C:Good Γ S){ops}{ali}{o}{c}(j:so P S.nt ops ali o c)(hs:stepG cf st c=some st')(hr:Rl P S st a w){K}{Q}
 (u:∀a' w',Rl P S st' a' w'->K a' w'):if Region.wanted o (yielded ops a.tmps)then o.wpIn (fw r) 0 P a w K Q else(∀f,o.about P w a.eval=some f->(fw r).fn f)/\K (a.put o.dst undef) w:=by
 rcases j with j|⟨y,B,j⟩|⟨x,y,B,p,v,l,q,F⟩
 ·exact MG A C j hs hr u
 ·obtain⟨dst,E,op⟩:=c
  unfold Mh at j;split at j
  case isFalse=>cases j
  obtain⟨D,p,j⟩:=qb j;obtain⟨g,v,j⟩:=qm j;simp only[Qa.mk.injEq]at j;obtain⟨rfl,rfl,rfl⟩:=j;obtain⟨b,z,hs⟩:=qb hs;rw[Yu v z hr];have k:∀d,o.dst=some d->d<S.nt:=fun d h=>by grind
  cases b with
  |true=>
   unfold nn at p;split at p
   ·grind [Ex,Option.map_eq_some_iff,s6]
   ·exact absurd p (by
     split
     ·rename_i c' l
      intro e;cases e;rcases zC l with⟨x,t⟩|⟨x,t⟩|t
      ·rw[t]at l;obtain⟨_,_,q⟩:=qm l;cases q
      ·rw[t]at l;obtain⟨_,_,q⟩:=qm l;cases q
      ·cases t
     ·split
      ·grind [GW]
      ·split
       ·grind [FW]
       ·intro e;cases e)
  |false=>
   cases hs;obtain⟨Fr,β,R,n⟩:=hr;refine⟨fun _ _=>trivial,u _ _ ?_⟩;cases i:o.dst with
   |none=>exact⟨Fr,β,R,n⟩
   |some d=>exact⟨Fr,β,R.put (k d i) (by exact⟨[],rfl,rfl⟩),n⟩
 obtain⟨dst,g,op⟩:=c;subst v;subst l;obtain⟨b,z,hs⟩:=qb hs;rw[Yu q z hr];have k:∀d,o.dst=some d->d<S.nt:=fun d h=>by grind
 obtain⟨Fr,β,R,n⟩:=hr;cases b with
 |true=>
  simp only[if_true,na,eb,kd,Xb]at hs⊢;subst hs;have t:(execOp a.eval o).run P w=.ok (.value (a.eval x)) w:=by
   unfold execOp;rw[B];rfl
  refine nh t (u _ _ ?_);cases i:o.dst with
  |none=>exact⟨Fr,β,R,n⟩
  |some d=>exact⟨Fr,β,R.put (k d i) (Ub R.sl p),n⟩
 |false=>
  cases hs;refine⟨fun _ _=>trivial,u _ _ ?_⟩;cases i:o.dst with
  |none=>exact⟨Fr,β,R,n⟩
  |some d=>exact⟨Fr,β,R.put (k d i) (by exact⟨[],rfl,rfl⟩),n⟩
theorem US(b:dc P Γ cf)(i:Good Γ S){ops}{ali}{Q}{rest}:∀(l)(k)(st)(a)(w),
 (∀j c,l[j]?=some c->∃o,ops[k+j]?=some o/\Mh P S.nt ops ali o=some c)->vc cf l st=some st'->Rl P S st a w->(∀a' w',Rl P S st' a' w'->wpOpsIn (fw r) 0 P ops Q rest a' w')->wpOpsIn (fw r) 0 P ops Q (List.range' k l.length++rest) a w
 |[],k,st,a,w,_,h,hr,g=>by
  grind [vc]
 |c::l,k,st,a,w,n,h,hr,g=>by
  obtain⟨s1,q,t⟩:=qb h;obtain⟨o,p,d⟩:=n 0 c rfl;rw[Cj]at p;rw[za,List.range'_succ,ub];unfold wpOpsIn;simp only[p];exact MG b i d q hr fun a' w' e=>US b i l (k+1) s1 a' w' (fun j c' u=>by
   have:=n (j+1) c' ia;rwa[Dp,Nat.add_comm 1 j]) t e g
end
def Ea.xs:Ea->List X
 | .mv x| .asg x| .sp x| .qk x| .un _ x| .conv _ x| .b2s x| .box _ _ x| .load _ _ x| .loadA x| .loadM x| .im _ x| .jm _ _ _ x| .ext x _| .len x| .Gn x=>[x]
 | .mvA s=>[.t s]
 | .pick c a b=>[c,a,b]
 | .bin _ x y| .beq _ x y| .Sk _ _ x y| .store _ x y| .Jg _ x y| .xm _ _ x y| .om _ _ _ x y| .appendS x y| .idx x y| .append _ _ x y| .mm _ x y=>[x,y]
 | .alloc ..=>[]
 | .build _ ps| .mksl _ _ _ _ ps=>ps.map (·.2.2)
 | .slice _ x e d| .sliceP _ _ x e d| .sliceS x e d=>x::e.toList++d.toList
 | .call _ xs| .clos _ xs=>xs
 | .callv g xs=>g::xs
def X.Bl:X->List Nat
 | .t s=>[s]
 | .c _=>[]
def Qa.reads(o:Qa):List Nat:=o.op.xs.flatMap X.Bl++(match o.g with|some (s,_)=>[s]|none=>[])
def Oz:Ea->Bool
 | .asg _| .loadM _| .alloc .. | .box .. | .store .. | .append .. | .appendS ..=>false
 |_=>true
def wH{c}{ρ ρ'}(h:∀x∈c.xs,ρ x=ρ' x):eb c ρ=eb c ρ':=by
 cases c
 case build zs ps=>
  have:(ps.map fun q=>(q.1,q.2.1,ρ q.2.2))=ps.map fun q=>(q.1,q.2.1,ρ' q.2.2):=Fl fun q j=>by
   rw[h q.2.2 (Ik.2 ⟨q,j,rfl⟩)]
  grind [eb]
 case clos f xs=>
  have:xs.map ρ=xs.map ρ':=Fl fun q j=>h q j
  grind [eb]
 case slice n x d b=>
  have a:ρ x=ρ' x:=h x (by simp[Ea.xs]);have e:d.map ρ=d.map ρ':=by cases d<;>simp;exact h _ (by simp[Ea.xs])
  have i:b.map ρ=b.map ρ':=by cases b<;>simp;exact h _ (by simp[Ea.xs])
  simp only[eb,a,e,i]
 case sliceP len n x d b=>
  have a:ρ x=ρ' x:=h x (by simp[Ea.xs]);have e:d.map ρ=d.map ρ':=by cases d<;>simp;exact h _ (by simp[Ea.xs])
  have i:b.map ρ=b.map ρ':=by cases b<;>simp;exact h _ (by simp[Ea.xs])
  grind [eb]
 case sliceS x d b=>
  have a:ρ x=ρ' x:=h x (by simp[Ea.xs]);have e:d.map ρ=d.map ρ':=by cases d<;>simp;exact h _ (by simp[Ea.xs])
  have i:b.map ρ=b.map ρ':=by cases b<;>simp;exact h _ (by simp[Ea.xs])
  grind [eb]
 all_goals first
  |rfl
  |(rename_i x y z;have a:=h x (by simp[Ea.xs]);have e:=h y (by simp[Ea.xs]);have i:=h z (by simp[Ea.xs]);simp only[eb,a,e,i];done)
  |(rename_i x y;have a:=h x (by simp[Ea.xs]);have e:=h y (by simp[Ea.xs]);simp only[eb,a,e];done)
  |(rename_i x;have a:=h x (by simp[Ea.xs]);simp only[eb,a];done)
  |(rename_i x _;have a:=h x (by simp[Ea.xs]);simp only[eb,a];done)
  |(rename_i g _ _ x;have a:=h x (by simp[Ea.xs]);cases g<;>simp only[eb,a];done)
  |skip
structure Jl where
 p:PV
 own:Bool
 al:Option Loc
 nb:Ha
def Lc(st:St)(d:Nat)(e:Jl):St:={sl:=(d,e.p)::st.sl,ow:=(if e.own then[.slot d]else[])++Ta d st.ow,al:=(match e.al with|some L=>[(d,L)]|none=>[])++Jb d st.al,bx:=st.bx++e.nb}
def makes:Ea->Bool
 | .alloc .. | .box ..=>true
 |_=>false
theorem vl(st)(d)(p):Lc st d ⟨p,false,none,[]⟩=st.put d p:=by simp[Lc,St.put]
theorem aH(st)(d)(p):Lc st d ⟨p,true,none,[]⟩=st.yc d p:=by simp[Lc,St.yc]
def xI{sl a}{x:X}(h:∀s∈x.Bl,look sl s=look a s):x.ev sl=x.ev a:=by
 cases x with
 |t s=>exact h s (by simp[X.Bl])
 |c v=>rfl
theorem hD{sl a}{c:Ea}(h:∀s∈c.xs.flatMap X.Bl,look sl s=look a s):∀x∈c.xs,x.ev sl=x.ev a:=fun x b=>xI fun s hs=>h s (List.mem_flatMap.2 ⟨x,b,hs⟩)
def XP{a}{n}{p v}{bx}(z)(h:sm a n p bx=some v):sm a n p (bx++z)=some v:=by
 unfold sm at h⊢
 grind [Option.bind_eq_some_iff,lC]
theorem I9{cf}{st st'}{o}{d}(hs:fe cf st o=some st')(v:Oz o.op=true)(L:o.dst=some d):
 ∃e,st'=Lc st d e/\e.nb=[]/\(∀s,e.al=some (.slot s)->s∈o.reads)/\∀a,(∀s∈o.reads,look a.sl s=look st.sl s)->(∃z,a.bx=st.bx++z)->fe cf a o=some (Lc a d e):=by
 obtain⟨dst,g,c⟩:=o;subst L;obtain⟨b,M,t⟩:=qb hs;clear hs;have hs:=t;have F:∀a:St,(∀s∈(Qa.mk (some d) g c).reads,look a.sl s=look st.sl s)->de a g=some b:=fun a h=>by
  grind [de,Qa.reads]
 cases b with
 |false=>
  simp only[Fa,if_false,Xb]at hs;refine⟨⟨.Mb [],false,none,[]⟩,by rw[<-hs,vl];rfl,rfl,(fun _ h=>by cases h),fun a h _=>?_⟩;unfold fe;simp only[F a h,Ra,Fa,if_false,vl];rfl
 |true=>
  simp only[if_true]at hs;split at hs
  case isFalse=>cases hs
  rename_i j
  have fin:∀e:Jl,e.nb=[]->st'=Lc st d e->(∀s,e.al=some (.slot s)->.t s∈c.xs)->(∀a:St,(∀x∈c.xs,x.ev a.sl=x.ev st.sl)->(∃z,a.bx=st.bx++z)->sb cf a.sl c=true/\na cf a (some d) c=some (Lc a d e))->
   ∃e:Jl,st'=Lc st d e/\e.nb=[]/\(∀s,e.al=some (.slot s)->s∈(Qa.mk (some d) g c).reads)/\∀a:St,(∀s∈(Qa.mk (some d) g c).reads,look a.sl s=look st.sl s)->(∃z,a.bx=st.bx++z)->fe cf a ⟨some d,g,c⟩=some (Lc a d e):=fun e k i u B=>by
   grind [Qa.reads,X.Bl,hD,fe]
  have w:Ni c=true->(∀sl,sb cf sl c=true)->∃e:Jl,st'=Lc st d e/\e.nb=[]/\(∀s,e.al=some (.slot s)->s∈(Qa.mk (some d) g c).reads)/\∀a:St,(∀s∈(Qa.mk (some d) g c).reads,look a.sl s=look st.sl s)->(∃z,a.bx=st.bx++z)->fe cf a ⟨some d,g,c⟩=some (Lc a d e):=fun I H=>by
   rw[co I]at hs;obtain⟨p,i,rfl⟩:=qm hs;refine fin ⟨p,false,none,[]⟩ rfl (by rw[vl];rfl) (fun _ h=>by cases h) fun a h _=>⟨H _,?_⟩
   rw[co I,wH (ρ':=(·.ev st.sl)) h,i,vl];rfl
  have l:∀(f:FuncId)(az:List X)(cs:List PV),Mi cf f ((az.map fun x=>(x.ev st.sl).Hb)++cs)=true->Sd cf st (some d) f ((az.map fun x=>(x.ev st.sl).Hb)++cs)=some st'->
   (∀a:St,(∀x∈c.xs,x.ev a.sl=x.ev st.sl)->sb cf a.sl c=sb cf st.sl c/\na cf a (some d) c=Sd cf a (some d) f ((az.map fun x=>(x.ev st.sl).Hb)++cs))->
   ∃e:Jl,st'=Lc st d e/\e.nb=[]/\(∀s,e.al=some (.slot s)->s∈(Qa.mk (some d) g c).reads)/\∀a:St,(∀s∈(Qa.mk (some d) g c).reads,look a.sl s=look st.sl s)->(∃z,a.bx=st.bx++z)->fe cf a ⟨some d,g,c⟩=some (Lc a d e):=fun f az cs u k J=>by
   unfold Mi at u;simp only[Vc]at u;obtain⟨G,u⟩:=u;unfold Sd at k;rw[if_pos G]at k;obtain⟨⟨A,os,bx',oc'⟩,N,O⟩:=qb k;have e1:∀s:St,(if os then s.yc d (Nc A)else s.put d (Nc A))=Lc s d ⟨Nc A,os,none,[]⟩:=fun s=>by
    grind [vl,aH]
   grind [Sd]
  cases c
  case mvA k=>
   obtain⟨u,A⟩:k≠d/\st'={(st.put d (look st.sl k))with al:=(d,.slot k)::Jb d st.al}:=by
    simp only[na,Ra]at hs
    grind
   refine fin ⟨look st.sl k,false,some (.slot k),[]⟩ rfl (by grind [Lc,St.put]) (fun s h=>by grind [Ea.xs]) fun a h _=>⟨rfl,?_⟩
   have i:look a.sl k=look st.sl k:=h (.t k) (by simp[Ea.xs]);simp only[na,Ra,if_neg u,i];simp[Lc,St.put]
  case mksl u n size zs ps=>
   obtain⟨cs,i,t⟩:=qb hs;split at t
   case isFalse=>cases t
   rename_i k;cases t;refine fin ⟨.ha n (ae cs),true,none,[]⟩ rfl (by rw[aH]) (fun _ h=>by cases h) fun a h _=>⟨rfl,?_⟩
   have:(ps.map fun q=>(q.1,q.2.1,q.2.2.ev a.sl))=ps.map fun q=>(q.1,q.2.1,q.2.2.ev st.sl):=Fl fun q D=>by
    rw[h q.2.2 (Ik.2 ⟨q,D,rfl⟩)]
   simp only[na,Ra,this,i,if_pos k,aH]
  case b2s x=>
   obtain⟨p,i,rfl⟩:=qm hs;refine fin ⟨p,false,none,[]⟩ rfl (by rw[vl];rfl) (fun _ h=>by cases h) fun a h r=>⟨rfl,?_⟩
   obtain⟨z,C⟩:=r;have B:Vl (x.ev st.sl) (st.bx++z)=some p:=by
    unfold Vl at i⊢;split at i
    ·exact i
    ·exact i
    ·obtain⟨q,E,k⟩:=qb i
     rw[lC E];exact k
    ·cases i
   simp only[na,h x (by simp[Ea.xs]),C,B,kd,vl];rfl
  case load k n x=>
   obtain⟨p,i,rfl⟩:=qm hs;refine fin ⟨p,false,none,[]⟩ rfl (by rw[vl]) (fun _ h=>by cases h) fun a h r=>⟨rfl,?_⟩
   obtain⟨z,C⟩:=r;simp only[na,Ra,h x (by simp[Ea.xs]),C,XP z i,kd,vl]
  case loadA x=>
   simp only[na,Ra]at hs;split at hs
   ·rename_i b o e1
    obtain⟨p,i,rfl⟩:=qm hs;refine fin ⟨p,false,some (.cell b o),[]⟩ rfl (by simp[Lc,St.put]) (fun _ h=>by cases h) fun a h r=>⟨rfl,?_⟩
    obtain⟨z,C⟩:=r;have k:((vd (st.bx++z) b).bind fun q=>q.2[o]?)=some p:=by
     obtain⟨cs,B,E⟩:=qb i;rw[lC B];exact E
    simp only[na,Ra,h x (by simp[Ea.xs]),C,e1,k,kd];simp[Lc,St.put]
   grind
  case call f args=>
   simp only[na]at hs;simp only[sb]at j;refine l f args [] ia (by simpa using hs) fun a h=>?_
   have:(args.map fun x=>(x.ev a.sl).Hb)=args.map fun x=>(x.ev st.sl).Hb:=Fl fun q D=>by rw[h q D]
   simp only[sb,na,this,Ye,and_self]
  case callv u args=>
   simp only[na]at hs;simp only[sb]at j;split at hs
   ·rename_i f Oa e1
    rw[e1]at j;split at hs
    ·cases hs
    rename_i ra;have k:Mi cf f ((args.map fun x=>(x.ev st.sl).Hb)++Oa)=true:=by simp only[Vc]at j;exact j.2
    refine l f args Oa k hs fun a h=>?_
    have i:(args.map fun x=>(x.ev a.sl).Hb)=args.map fun x=>(x.ev st.sl).Hb:=Fl fun q D=>by grind [Ea.xs]
    have B:u.ev a.sl=.fb f Oa:=(h u (by simp[Ea.xs])).trans e1;simp only[sb,na,i,B,e1,if_neg ra,and_self]
   ·grind
   ·cases hs
  case asg x=>cases v
  case loadM x=>cases v
  case alloc K zs=>cases v
  case box K n x=>cases v
  case store n x y=>cases v
  case append n x y=>cases v
  case appendS x y=>cases v
  all_goals exact w rfl fun _=>rfl
def vz{ps}(h:ol ps=true)(b o):fd b o ps=[]:=by
 induction ps generalizing o<;>grind [ol,fd]
def wz{ps}(h:ol ps=true):ps.map wk=ps:=by
 induction ps<;>grind [ol,oI]
theorem D6{cf}{st st'}{o}{d}(hs:fe cf st o=some st')(t:makes o.op=true)(r:o.dst=some d):
 ∃e,st'=Lc st d e/\(∀s,e.al=some (.slot s)->s∈o.reads)/\∀i,(∀s∈o.reads,look i.sl s=look st.sl s)->i.bx=st.bx->fe cf i o=some (Lc i d e):=by
 obtain⟨dst,g,c⟩:=o;subst r;obtain⟨b,v,p⟩:=qb hs;clear hs;have hs:=p;have k:∀i:St,(∀s∈(Qa.mk (some d) g c).reads,look i.sl s=look st.sl s)->de i g=some b:=fun i h=>by
  grind [de,Qa.reads]
 cases b with
 |false=>
  simp only[Fa,if_false,Xb]at hs;refine⟨⟨.Mb [],false,none,[]⟩,by rw[<-hs,vl];rfl,(fun _ h=>by cases h),fun i h _=>?_⟩;unfold fe;simp only[k i h,Ra,Fa,if_false,vl];rfl
 |true=>
  simp only[if_true]at hs;split at hs
  case isFalse=>cases hs
  rename_i a;cases c
  case alloc l zs=>
   simp only[sb]at a;simp only[na,kd,Xb,vz a,wz a,Gb]at hs;refine⟨⟨.ptr st.bx.length 0,false,none,[(l,zs)]⟩,by grind [Lc,St.put],(fun _ h=>by cases h),fun i h j=>?_⟩;unfold fe;simp only[k i h,Ra,if_true,sb,a,na,kd,j,vz a,wz a,Gb]
   grind [Lc,St.put]
  case box l n x=>
   simp only[sb]at a;simp only[na,Ra,vz a,wz a,Gb]at hs;split at hs
   case isFalse=>cases hs
   rename_i q;cases hs;refine⟨⟨.ptr st.bx.length 0,false,none,[(l,(x.ev st.sl).cells)]⟩,ja,(fun _ h=>by cases h),fun i h j=>?_⟩;have u:x.ev i.sl=x.ev st.sl:=hD (c:=.box l n x) (fun s hs=>h s (by grind [Qa.reads])) x (by simp[Ea.xs]);unfold fe;simp only[k i h,Ra,if_true,sb,a,na,u,if_pos q,j,vz a,wz a,Gb]
   grind [Lc,St.put]
  all_goals cases t
def Hg(ops:Array Oper)(i:Nat):List Nat:=match ops[i]? with
 |some o=>o.after.toList.filterMap fun e=>if Region.binds .any e then some e.on else none
 |none=>[]
def Xw:List (List Nat)->List (List Nat)->List (List Nat)
 |acc,[]=>acc
 |acc,a::r=>Xw (acc++[(a.flatMap fun j=>j::acc.getD j []).eraseDups]) r
def Nk(ops:Array Oper):List (List Nat):=Xw [] ((List.range ops.size).map (Hg ops))
def Yx(ops:Array Oper)(cs:List Qa)(k:Nat):Bool:=
 let a:=Nk ops
 decide (k<=cs.length)&&
 (List.range ops.size).all (fun i=>(Hg ops i).all (·<i))&&
 (List.range k).all (fun i=>match cs[i]? with
   |some o=>(Oz o.op||(i+1==k&&makes o.op))&&o.dst.isSome
   |none=>true)&&
 (List.range k).all (fun i=>(List.range k).all fun j=>i==j||((cs[i]?).bind (·.dst)) !=((cs[j]?).bind (·.dst)))&&
 (List.range k).all (fun i=>match cs[i]? with
   |some o=>o.reads.all fun s=>(List.range k).all fun j=>((cs[j]?).bind (·.dst)) !=some s||(decide (j<i)&&(a.getD i []).contains j)
   |none=>true)&&
 (List.range cs.length).all (fun i=>decide (i<k)||(List.range i).all fun j=>(a.getD i []).contains j)
theorem bJ{dir}{E:Nat->Prop}(p:∀i,E i->∀j∈dir.getD i [],E j):∀(r a done),dir=done++r->a.length=done.length->
 (∀i,(∀j∈done.getD i [],E j)->∀x∈a.getD i [],E x)->∀i,(∀j∈dir.getD i [],E j)->∀x∈(Xw a r).getD i [],E x
 |[],a,done,w,g,h,i,q,x,t=>by
  grind [Xw]
 |v::r,a,done,w,g,h,i,q,x,t=>by
  refine bJ p r _ (done++[v]) ia (by simp[g]) (fun o b u c=>?_) i q x t;by_cases ea:o<a.length
  ·exact h o ia u ia
  ·by_cases z:o=a.length
   ·subst z
    rw[FA,He (la _)]at c;rw[FA,g,He (la _)]at b;simp only[Nat.sub_self,List.getElem?_cons_zero,jr]at c b;have k:=List.mem_eraseDups.1 c;obtain⟨j,A,l⟩:=List.mem_flatMap.1 k;have d:=b j A;rcases Wb.1 l with e|n
    ·grind
    ·refine h j (fun y B=>p j d y ?_) u n
     grind
   grind
def fB{ops}{E:Nat->Prop}(b:∀i,E i->∀j∈Hg ops i,E j){i}(c:i<ops.size)(h:∀j∈Hg ops i,E j):∀x∈(Nk ops).getD i [],E x:=by
 refine bJ (dir:=(List.range ops.size).map (Hg ops)) (fun g a j d=>?_) _ [] [] rfl rfl (fun i _ x e=>by grind) i ia
 grind
section
variable {P:Program} {w w':World} {r:Option Nat} {Fr Fr':Nat→Nat} {β β':List Nat} {T:List Deferred} {base nt:Nat} {M:Nat→Prop} {w0:World} {F0:Nat→Nat} {st st':St} {a a':Act} {cf:Callee} {Γ:Ze} {S:S0}
def Rl.congr(h:Rl P S st a w)(k:∀i,look st'.sl i=look st.sl i)(b:∀L,L∈st'.ow->L∈st.ow)(l:∀q,q∈st'.al->q∈st.al)(n:st'.bx=st.bx):Rl P S st' a w:=by
 obtain⟨Fr,β,R,p⟩:=h;have e:∀L,ab st' L=ab st L:=fun L=>by cases L<;>simp only[ab,k,n]
 exact⟨Fr,β,⟨fun i=>by rw[k];exact R.sl i,R.nt,R.df,by grind [Rel.bx],R.nd,fun L c=>by rw[e];exact R.own L (b L c),fun L c j d=>R.sep L (b L c) j (b j d),fun L c=>R.out L (b L c),fun q r=>R.al q (l q r),
  fun g o=>R.may g (o.imp id fun⟨L,t,u⟩=>⟨L,b L t,u⟩),R.old,R.ge,R.os,R.tape,R.output⟩,p⟩
structure Sat (k:Nat) (d:Nat→Nat) (eff:Nat→Jl) (E:Nat→Prop) (st0 st:St):Prop where
 e1:∀ i,i<k→E i→look st.sl (d i)=(eff i).p
 e2:∀ s,(∀ i,i<k→E i→d i≠s)→look st.sl s=look st0.sl s
 e3:∀ L,L∈st.ow ↔ (∃ i,i<k∧E i∧(eff i).own=true∧L=.slot (d i))∨(L∈st0.ow∧∀ i,i<k→E i→Xd (d i) L=false)
 e4:∀ q,q∈st.al ↔ ∃ i,i<k∧E i∧(eff i).al=some q.2∧q.1=d i
 e5:(∀ i,i<k→E i→(eff i).nb=[])→st.bx=st0.bx
 e6:∀ i,i<k→E i→(eff i).nb≠[]→st.bx=st0.bx++(eff i).nb
def Sat.start{k}{d}{eff}{a}(h:a.al=[]):Sat k d eff (fun _=>False) a a:=
 ⟨fun _ _ h=>h.elim,fun _ _=>rfl,fun L=>⟨fun h=>.inr ⟨h,fun _ _ h=>h.elim⟩,fun h=>h.elim (fun⟨_,_,h,_⟩=>h.elim) (·.1)⟩,fun q=>by grind,fun _=>rfl,fun _ _ h=>h.elim⟩
def Sat.step{k}{d}{eff}{E}{t st}(h:Sat k d eff E t st)(y:∀i j,i<k->j<k->i≠j->d i≠d j){i}(w:i<k)(z:¬E i)
 (A:∀j,j<k->(eff j).nb≠[]->j+1=k) (v:∀j,j<k->E j->∀L,(eff j).al=some L->Xd (d i) L=false):Sat k d eff (fun j=>E j\/j=i) t (Lc st (d i) (eff i)):=by
 have ra:∀j,j<k->E j->d j≠d i:=fun j c a=>y j i c w fun e=>z (e▸a)
 refine⟨fun j c a=>?_,fun s hs=>?_,fun L=>?_,fun q=>?_,fun o=>?_,fun j c a p=>?_⟩
 rotate_left 4
 ·have u:=h.e5 fun j c a=>o j c (.inl a)
  grind [Lc]
 ·rcases a with a|rfl
  ·have u:(eff i).nb=[]:=Ht fun x=>by
    grind
   simp only[Lc,u,Ye];exact h.e6 j c a p
  ·have u:=h.e5 fun m l a=>Ht fun x=>by
    grind
   grind [Lc]
 ·simp only[Lc,oe]
  rcases a with a|rfl
  ·rw[if_neg (yi (ra j c a))];exact h.e1 j c a
  simp
 ·simp only[Lc,oe]
  rw[if_neg (hs i w (.inr rfl))];exact h.e2 s fun j c a=>hs j c (.inl a)
 ·simp only[Lc,wg,ml]
  constructor
  ·rintro(l|⟨l,B⟩)
   ·grind
   ·rcases(h.e3 L).1 l with⟨j,g,b,n,r⟩|⟨g,b⟩<;>grind
  ·rintro(⟨j,g,b,n,r⟩|⟨g,b⟩)
   ·rcases b with b|rfl
    ·right
     refine⟨(h.e3 L).2 (.inl ⟨j,g,b,n,r⟩),?_⟩
     grind [Xd]
    grind
   ·exact .inr ⟨(h.e3 L).2 (.inr ⟨g,fun j c a=>b j c (.inl a)⟩),b i w (.inr rfl)⟩
 ·simp only[Lc,wg,Pq]
  constructor
  ·rintro(l|⟨l,B,x⟩)
   ·grind
   ·obtain⟨j,g,b,n,r⟩:=(h.e4 q).1 l
    grind
  ·rintro⟨j,g,b,n,r⟩
   rcases b with b|rfl
   ·exact .inr ⟨(h.e4 q).2 ⟨j,g,b,n,r⟩,ia,v j g b _ n⟩
   grind
theorem RR:∀(l)(st stk),Xf cf l st=some stk->(∀(i)(o),l[i]?=some o->(Oz o.op=true\/(i+1=l.length/\makes o.op=true))/\o.dst.isSome=true)->
 ∃(c:List Jl)(b:List St),c.length=l.length/\b[0]?=some st/\b[l.length]?=some stk/\∀i o,l[i]?=some o->∃e s d,c[i]?=some e/\b[i]?=some s/\o.dst=some d/\b[i+1]?=some (Lc s d e)/\(∀x,e.al=some (.slot x)->x∈o.reads)/\(e.nb≠[]->i+1=l.length)/\
  ∀a,(∀x∈o.reads,look a.sl x=look s.sl x)->(∃z,a.bx=s.bx++z)->(i+1=l.length->a.bx=s.bx)->fe cf a o=some (Lc a d e)
 |[],st,stk,h,_=>by
  simp only[Xf,Xb]at h;subst h;exact⟨[],[st],rfl,rfl,rfl,fun i o q=>by grind⟩
 |o::l,st,stk,h,j=>by
  obtain⟨s1,w,n⟩:=qb h;obtain⟨r,g⟩:=j 0 o da;obtain⟨d,B⟩:=GA.1 g;obtain⟨e,e1,y,p,A⟩:∃e:Jl,s1=Lc st d e/\(∀x,e.al=some (.slot x)->x∈o.reads)/\(e.nb≠[]->0+1=(o::l).length)/\∀a:St,(∀x∈o.reads,look a.sl x=look st.sl x)->(∃z,a.bx=st.bx++z)->(0+1=(o::l).length->a.bx=st.bx)->fe cf a o=some (Lc a d e):=by
   grind [I9,D6]
  obtain⟨c,b,u,C,v,D⟩:=RR l _ stk n fun i k t=>by
   obtain⟨E,F⟩:=j (i+1) k ia
   grind
  refine⟨e::c,st::b,by simp[u],rfl,by simpa using v,fun i k q=>?_⟩;cases i with
  |zero=>
   simp_all
  |succ i=>
   simp_all
def zbU{o}(h:fe cf st o=some st'):stepG cf st o=some st':=by
 grind [fe,Option.bind_eq_some_iff,stepG]
def Jw{ops}{Q}{K}{i}{o}(b:ops[i]?=some o)(h:if Region.wanted o (yielded ops a.tmps)then o.wpIn (fw r) 0 P a w K Q else(∀f,o.about P w a.eval=some f->(fw r).fn f)/\K (a.put o.dst undef) w):wpOpIn (fw r) 0 P ops Q i K a w:=by
 grind [wpOpIn]
theorem bZ(hcf:dc P Γ cf)(hSZ:Good Γ S){ops}{ali}{cs}{k}{Q}{C stk stF}(hok:Yx ops cs k=true)(hlen:cs.length=ops.size)
 (hco:∀(j:Nat)(c),cs[j]?=some c->∃o,ops[j]?=some o/\so P S.nt ops ali o c) (hal:C.al=[]) (hpre:Xf cf (cs.take k) C=some stk) (D:vc cf (cs.drop k) stk=some stF) (hr:Rl P S C a w)
 (hKZ:∀a' w',Rl P S stF a' w'->Q .normal a' w'):wpAnyIn (fw r) 0 P .any ops Q ops.size (Array.replicate ops.size false) a w:=by
 unfold Yx at hok;simp only[Vc,decide_eq_true_eq,Dj,mo,Bool.or_eq_true,bne_iff_ne,ne_eq,beq_iff_eq]at hok;obtain⟨⟨⟨⟨⟨hkZ,hback⟩,hkind⟩,hdist⟩,hreads⟩,htl⟩:=hok;have hkl:(cs.take k).length=k:=by rw[Ac];omega
 have K:∀(i:Nat)(o:Qa),(cs.take k)[i]?=some o->(Oz o.op=true\/(i+1=(cs.take k).length/\makes o.op=true))/\o.dst.isSome=true:=fun i o y=>by
  grind
 obtain⟨esZ,ssZ,hel,hs0,hsk,hss⟩:=RR (cf:=cf) (cs.take k) C stk hpre K;rw[hkl]at hel hsk hss;obtain⟨d,hdZ⟩:∃d:Nat->Nat,∀(i:Nat)(c:Qa),i<k->cs[i]?=some c->c.dst=some (d i):=by
  refine⟨fun i=>((cs[i]?).bind (·.dst)).getD 0,fun i c y hcZ=>?_⟩;have t:=(K i c (show(cs.take k)[i]?=some c by grind)).2;obtain⟨x,M⟩:=GA.1 t;simp[hcZ,M]
 obtain⟨eff,heff⟩:∃eff:Nat->Jl,∀(i:Nat)(e:Jl),esZ[i]?=some e->eff i=e:=⟨fun i=>(esZ[i]?).getD ⟨.hd,false,none,[]⟩,fun i e h=>by simp[h]⟩;have hcs:∀i:Nat,i<k->∃c,cs[i]?=some c:=fun i y=>⟨_,qe aa⟩
 have hdd:∀i j,i<k->j<k->i≠j->d i≠d j:=fun i j y p ra e=>by
  grind
 have hrd:∀(i:Nat)(c:Qa),i<k->cs[i]?=some c->∀s∈c.reads,∀j,j<k->d j=s->j<i/\j∈(Nk ops).getD i []:=fun i c y hcZ s hs j p hdj=>by
  grind
 have Z:∀i:Nat,i<k->∃c s,cs[i]?=some c/\ssZ[i]?=some s/\ssZ[i+1]?=some (Lc s (d i) (eff i))/\(∀x,(eff i).al=some (.slot x)->x∈c.reads)/\((eff i).nb≠[]->i+1=k)/\
  ∀J:St,(∀x∈c.reads,look J.sl x=look s.sl x)->(∃z,J.bx=s.bx++z)->(i+1=k->J.bx=s.bx)->fe cf J c=some (Lc J (d i) (eff i)):=fun i y=>by
  obtain⟨c,hcZ⟩:=hcs i y;obtain⟨e,s,N,q1Z,q2Z,R,U,V,W,X⟩:=hss i c (by rw[Lt y];exact hcZ);have t:=hdZ i c y hcZ;simp_all
 have hnb:∀j,j<k->(eff j).nb≠[]->j+1=k:=fun j p h=>by
  obtain⟨_,_,_,_,_,_,h6Z,_⟩:=Z j p;exact h6Z h
 have halx:∀i,i<k->∀j,j<k->∀E:Nat->Prop,¬E i->E j->(∀x∈(Nk ops).getD j [],E x)->∀L,(eff j).al=some L->Xd (d i) L=false:=fun i y j p E hnZ hEZ hcl L hLZ=>by
  cases L with
  |cell b o=>rfl
  |slot x=>
   simp only[Xd,beq_eq_false_iff_ne,ne_eq];intro e;obtain⟨c,s,hcZ,_,_,h5Z,_,_⟩:=Z j p;exact hnZ (hcl i (hrd j c p hcZ x (h5Z x hLZ) i y e.symm).2)
 have hsat:∀i:Nat,i<=k->∃s,ssZ[i]?=some s/\Sat k d eff (fun j=>j<i) C s:=fun i=>by
  induction i with
  |zero=>exact fun _=>⟨C,hs0,by have:=Sat.start (k:=k) (d:=d) (eff:=eff) hal;simpa using this⟩
  |succ i ihZ=>
   intro y;obtain⟨s,t,v⟩:=ihZ aa;obtain⟨c,s',hcZ,B,O,h5Z,_,_⟩:=Z i y;rw[t]at B;cases B;refine⟨_,O,?_⟩;have:=v.step hdd (i:=i) y aa hnb fun j p hEZ L hLZ=>by
    cases L with
    |cell b o=>rfl
    |slot x=>
     simp only[Xd,beq_eq_false_iff_ne,ne_eq];intro e;obtain⟨c',N,J,_,_,h6Z,_,_⟩:=Z j p;have:=(hrd j c' p J x (h6Z x hLZ) i y e.symm).1;omega
   have e:(fun j=>j<i\/j=i)=fun j=>j<i+1:=by funext j;apply propext;omega
   rw[e]at this;omega
 have A:Sat k d eff (fun j=>j<k) C stk:=by
  obtain⟨s,t,v⟩:=hsat k (la _);rw[hsk]at t;cases t;exact v
 have htails:∀m,k<=m->m<=ops.size->∃s,vc cf ((cs.drop k).take (m - k)) stk=some s/\vc cf (cs.drop m) s=some stF:=by
  have split:∀(l:List Qa)(n:Nat)(s:St),vc cf l s=some stF->∃s',vc cf (l.take n) s=some s'/\vc cf (l.drop n) s'=some stF:=by
   intro l
   induction l with
   |nil=>intro n s h;exact⟨s,by simp[vc],by simpa using h⟩
   |cons o l ihZ=>
    intro n s h;cases n with
    |zero=>exact⟨s,rfl,h⟩
    |succ n=>
     obtain⟨s1,t,v⟩:=qb h;obtain⟨s',B,O⟩:=ihZ n s1 v;exact⟨s',by simp only[Ft,vc,t,Ra];exact B,O⟩
  intro m hmZ hm2;obtain⟨s,t,v⟩:=split (cs.drop k) (m - k) stk D;refine⟨s,t,?_⟩;rw[rf]at v;rwa[show k+(m - k)=m by omega]at v
 have F:∀(l l'Z:List Qa)(s:St),vc cf (l++l'Z) s=(vc cf l s).bind (vc cf l'Z):=by
  intro l
  induction l with
  |nil=>intro l'Z s;rfl
  |cons o l ihZ=>
   intro l'Z s;simp only[ub,vc];cases stepG cf s o with
   |none=>rfl
   |some s1=>exact ihZ l'Z s1
 have T:∀m,k<=m->m<ops.size->∀s,vc cf ((cs.drop k).take (m - k)) stk=some s->∃c s',cs[m]?=some c/\stepG cf s c=some s'/\vc cf ((cs.drop k).take (m+1 - k)) stk=some s':=fun m hmZ hm2 s hs=>by
  obtain⟨N,t,v⟩:=htails m hmZ aa;rw[hs]at t;cases t;have J:m<cs.length:=aa
  rw[ld J]at v;obtain⟨s',B,O⟩:=qb v;refine⟨cs[m],s',qe J,B,?_⟩;have:(cs.drop k).take (m+1 - k)=(cs.drop k).take (m - k)++[cs[m]]:=by
   rw[show m+1 - k=(m - k)+1 by omega,Km (by rw[Ya];omega)];congr 2;rw[List.getElem_drop];congr 1;omega
  rw[this,F,hs];simp only[Ra,vc,B]
 have I:∀(g:Array Bool)(i j:Nat),i<g.size->((g.setIfInBounds i true).getD j false=true ↔ (g.getD j false=true\/j=i)):=fun g i j y=>by
  by_cases h:i=j
  ·subst h;simp[y]
  ·rw[getD_set_ne false h]
   exact⟨.inl,fun h'Z=>h'Z.resolve_right (yi h)⟩
 have full:∀(E:Nat->Prop)(s:St)(a:Act)(w:World),Sat k d eff E C s->(∀i,i<k->E i)->Rl P S s a w->Rl P S stk a w:=fun E s a w hs hEZ hr=>by
  refine hr.congr (fun x=>?_) (fun L hLZ=>?_) (fun q J=>?_) ?_
  ·by_cases M:∃j,j<k/\d j=x
   ·obtain⟨j,p,rfl⟩:=M
    rw[A.e1 j p p,hs.e1 j p (hEZ j p)]
   ·have H:∀j,j<k->d j≠x:=fun j p e=>M ⟨j,p,e⟩
    rw[A.e2 x fun j p _=>H j p,hs.e2 x fun j p _=>H j p]
  ·refine(hs.e3 L).2 (((A.e3 L).1 hLZ).imp ?_ ?_)
   ·rintro⟨i,t,v,B,O⟩;exact⟨i,t,hEZ i t,B,O⟩
   ·rintro⟨t,v⟩;exact⟨t,fun i y _=>v i y y⟩
  ·obtain⟨i,t,v,B,O⟩:=(A.e4 q).1 J
   exact(hs.e4 q).2 ⟨i,t,hEZ i t,B,O⟩
  ·by_cases M:∃j,j<k/\(eff j).nb≠[]
   ·obtain⟨j,p,G⟩:=M
    rw[A.e6 j p p G,hs.e6 j p (hEZ j p) G]
   ·have H:∀j,j<k->(eff j).nb=[]:=fun j p=>Ht fun h=>M ⟨j,p,h⟩
    rw[A.e5 fun j p _=>H j p,hs.e5 fun j p _=>H j p]
 have fin:∀(g:Array Bool)(a:Act)(w:World),(∀i,i<ops.size->g.getD i false=true)->
  ((∃s,Sat k d eff (fun j=>g.getD j false=true) C s/\Rl P S s a w/\∀i,k<=i->¬g.getD i false=true)\/
    (∃m s,k<=m/\m<=ops.size/\(∀i,i<ops.size->(g.getD i false=true ↔ i<m))/\vc cf ((cs.drop k).take (m - k)) stk=some s/\Rl P S s a w))->Q .normal a w:=fun g a w u h=>by
  rcases h with⟨s,t,v,B⟩|⟨m,s,t,v,B,O,h5Z⟩
  ·have J:ops.size<=k:=by
    rcases ai k ops.size with h|h
    ·exact absurd (u k h) (B k (la _))
    ·exact h
   have h6Z:=full _ s a w t (fun i y=>u i aa) v;have:cs.drop k=[]:=List.drop_eq_nil_iff.2 aa;rw[this]at D;simp only[vc,Xb]at D;subst D;exact hKZ a w h6Z
  ·have hmn:m=ops.size:=by
    rcases ai m ops.size with h|h
    ·have:=(B m h).1 (u m h);omega
    ·omega
   rw[Rf (by rw[Ya];omega),D]at O;cases O;exact hKZ a w h5Z
 have main:∀(fuel:Nat)(g:Array Bool)(a:Act)(w:World),g.size=ops.size->((List.range ops.size).filter fun i=>!g.getD i false).length<=fuel->
  (∀i,i<ops.size->g.getD i false=true->∀j∈Hg ops i,g.getD j false=true)->
  ((∃s,Sat k d eff (fun j=>g.getD j false=true) C s/\Rl P S s a w/\∀i,k<=i->¬g.getD i false=true)\/
    (∃m s,k<=m/\m<=ops.size/\(∀i,i<ops.size->(g.getD i false=true ↔ i<m))/\vc cf ((cs.drop k).take (m - k)) stk=some s/\Rl P S s a w))->
  wpAnyIn (fw r) 0 P .any ops Q fuel g a w:=by
  intro fuel;have rdy:∀(g:Array Bool)(i:Nat),g.size=ops.size->(i∈Region.ready .any ops g ↔ i<ops.size/\¬g.getD i false=true/\∀j∈Hg ops i,g.getD j false=true):=fun g i hzZ=>by
   rw[mem_ready];constructor
   ·rintro⟨t,o,hoZ,v⟩
    have y:=(xg.1 hoZ).1;refine⟨y,?_,fun j p=>?_⟩
    ·rw[Im,Dw aa]at t⊢
     simp at t⊢;exact t
    ·unfold Hg at p
     rw[hoZ]at p;obtain⟨e,N,G⟩:=List.mem_filterMap.1 p;split at G
     ·rename_i J;cases G;exact v e (by simpa using N) J
     ·cases G
   grind [Hg]
  have stuck:∀g:Array Bool,g.size=ops.size->Region.ready .any ops g=[]->∀i,i<ops.size->g.getD i false=true:=fun g hzZ hrd i=>by
   induction i using Nat.strongRecOn<;>grind
  induction fuel with
  |zero=>
   intro g a w hzZ hcZ _ hph;have u:∀i,i<ops.size->g.getD i false=true:=fun i y=>by
    simp_all
   refine⟨?_,fin g a w u hph⟩;cases hrl:Region.ready .any ops g with
   |nil=>rfl
   |cons i r=>
    have:=(rdy g i hzZ).1 (by rw[hrl];simp);exact absurd (u i this.1) this.2.1
  |succ fuel ihZ=>
   intro g a w hzZ hcZ hcl hph;refine⟨fun h=>fin g a w (stuck g hzZ h) hph,fun i y=>?_⟩;obtain⟨X,R,hdir⟩:=(rdy g i hzZ).1 y;have V:∀i,g.getD i false=true->∀j∈Hg ops i,g.getD j false=true:=fun i'Z h=>by
    grind
   have U:∀x∈(Nk ops).getD i [],g.getD x false=true:=fB V X hdir;have hz2:(g.setIfInBounds i true).size=ops.size:=by simp[hzZ]
   have hcnt:((List.range ops.size).filter fun j=>!(g.setIfInBounds i true).getD j false).length<=fuel:=by
    have e1:((List.range ops.size).filter fun j=>!(g.setIfInBounds i true).getD j false)=((List.range ops.size).filter fun j=>!g.getD j false).filter (· !=i):=by
     rw[Gl];apply oo;intro j _;have:=I g i j aa;by_cases hji:j=i
     ·subst hji
      have t:(g.setIfInBounds j true).getD j false=true:=this.2 (.inr rfl);rw[t];simp
     ·rw[getD_set_ne false (yi hji)];simp[hji]
    have J:i∈(List.range ops.size).filter fun j=>!g.getD j false:=Hc.2 ⟨mo.2 X,by simpa using R⟩
    rw[e1];have:=iI.2 (show∃x∈(List.range ops.size).filter (fun j=>!g.getD j false),¬((x !=i)=true)from⟨i,J,da⟩);omega
   have hcl2:∀i'Z,i'Z<ops.size->(g.setIfInBounds i true).getD i'Z false=true->∀j∈Hg ops i'Z,(g.setIfInBounds i true).getD j false=true:=fun i'Z hi' h j p=>by
    rw[I g i _ aa]at h⊢;rcases h with h|rfl
    ·exact .inl (hcl i'Z hi' h j p)
    ·exact .inl (hdir j p)
   have N:∀m s,k<=m->m<ops.size->(∀i,i<ops.size->(g.getD i false=true ↔ i<m))->vc cf ((cs.drop k).take (m - k)) stk=some s->Rl P S s a w->wpOpIn (fw r) 0 P ops Q i (wpAnyIn (fw r) 0 P .any ops Q fuel (g.setIfInBounds i true)) a w:=fun m s hmZ hm2 hlZ hev hrl=>by
    have J:i=m:=by
     have t:¬i<m:=fun h=>R ((hlZ i X).2 h)
     rcases htl i aa with h|h
     ·omega
     ·rcases ai m i with v|v
      ·have B:=U m (by simpa using h m v)
       have:=(hlZ m hm2).1 B;omega
      ·omega
    subst J;obtain⟨c,s',t,v,B⟩:=T i hmZ hm2 s hev;obtain⟨o,hoZ,W⟩:=hco i c t;refine Jw hoZ (Kz hcf hSZ W v hrl fun a' w' hr'=>ihZ _ a' w' hz2 hcnt hcl2 (.inr ⟨i+1,s',aa,aa,fun j p=>?_,B,hr'⟩));rw[I g i j aa,hlZ j p];omega
   rcases hph with⟨s,t,v,B⟩|⟨m,s,t,v,B,O,h5Z⟩
   ·by_cases hik:i<k
    ·obtain⟨c,siZ,hc1,hsi,_,M,_,hloc⟩:=Z i hik
     obtain⟨o,hoZ,W⟩:=hco i c hc1;obtain⟨si',hsi',J⟩:=hsat i aa;rw[hsi]at hsi';cases hsi';have hsib:siZ.bx=C.bx:=J.e5 fun j p hji=>Ht fun h=>by
      have:=hnb j p h;omega
     have hstep:=hloc s (fun x hxr=>by
      by_cases M:∃j,j<k/\d j=x
      ·obtain⟨j,p,rfl⟩:=M
       obtain⟨q1Z,q2Z⟩:=hrd i c hik hc1 _ hxr j p rfl;rw[t.e1 j p (U j q2Z),J.e1 j p q1Z]
      ·have H:∀j,j<k->d j≠x:=fun j p e=>M ⟨j,p,e⟩
       rw[t.e2 x fun j p _=>H j p,J.e2 x fun j p _=>H j p]) (by
       rw[hsib];by_cases M:∃j,j<k/\g.getD j false=true/\(eff j).nb≠[]
       ·obtain⟨j,p,Y,G⟩:=M
        exact⟨_,t.e6 j p Y G⟩
       ·exact⟨[],by rw[Ye];exact t.e5 fun j p Y=>Ht fun h=>M ⟨j,p,Y,h⟩⟩) (fun hlast=>by
       rw[hsib];refine t.e5 fun j p Y=>Ht fun h=>?_
       have:=hnb j p h;exact R ((show j=i by omega)▸Y))
     have hnew:=t.step hdd hik R hnb fun j p hEZ L hLZ=>halx i hik j p (fun j=>g.getD j false=true) R hEZ (fB V aa (V j hEZ)) L hLZ
     refine Jw hoZ (Kz hcf hSZ W (zbU hstep) v fun a' w' hr'=>ihZ _ a' w' hz2 hcnt hcl2 (.inl ⟨_,?_,hr',fun j p hlj=>?_⟩))
     ·have e:(fun j=>(g.setIfInBounds i true).getD j false=true)=fun j=>g.getD j false=true\/j=i:=by
       funext j;exact propext (I g i j aa)
      rw[e];omega
     ·rcases(I g i j aa).1 hlj with h|h
      ·exact B j p h
      ·omega
    ·
     have u:∀j,j<i->g.getD j false=true:=fun j p=>by
      rcases htl i aa with h|h
      ·omega
      ·exact U j (by simpa using h j p)
     have J:i=k:=by
      rcases ai k i with h|h
      ·exact absurd (u k h) (B k (la _))
      ·omega
     subst J;exact N i stk (la _) X (fun j p=>⟨fun h=>by
      rcases ai j i with h'Z|h'Z
      ·exact h'Z
      ·exact absurd h (B j h'Z),fun h=>u j h⟩) (by simp[vc]) (full _ s a w t u v)
   ·have hmn:m<ops.size:=by
     rcases ai m ops.size with h|h
     ·exact h
     ·exact absurd ((B i X).2 aa) R
    exact N m s t hmn B O h5Z
 refine main ops.size _ a w da (Ob (Ew _ _) da) (fun i y h=>by simp[y]at h) (.inl ⟨C,?_,hr,fun i y h=>?_⟩)
 ·have J:=Sat.start (k:=k) (d:=d) (eff:=eff) hal
  have e:(fun j=>(Array.replicate ops.size false).getD j false=true)=fun _=>False:=by
   funext j;apply propext;by_cases p:j<ops.size<;>simp[p]
  rw[e];exact J
 ·by_cases p:i<ops.size<;>simp[p]at h
end
def Hd(D:List Nat):Loc->Bool
 | .slot i=>!D.contains i
 | .cell ..=>true
structure Part (N:Nat→Prop) (D:List Nat) (s1 s:St):Prop where
 sl:∀ x,¬ N x→look s1.sl x=look s.sl x
 ow:s1.ow.filter (Hd D)=s.ow
 al:s1.al=s.al
 bx:s1.bx=s.bx
 no:∀ q∈s.al,q.1 ∉ D∧Hd D q.2=true
 un:∀ x,x∈D→¬ N x→.slot x ∉ s1.ow
section
variable {N:Nat→Prop} {D:List Nat} {s1 s s':St} {cf:Callee}
theorem bm{i}:Hd D (.slot i)=true ↔ i∉D:=by simp[Hd]
def Part.own(h:Part N D s1 s){L}(d:∀i,L=.slot i->¬N i):L∈s1.ow ↔ L∈s.ow:=by
 rw[<-h.ow,Hc];cases L with
 |cell b o=>simp[Hd]
 |slot i=>
  rw[bm];constructor
  ·intro a
   exact⟨a,fun c=>h.un i c (d i rfl) a⟩
  grind
theorem Part.cells(h:Part N D s1 s):s1.ow.filter Ca=s.ow.filter Ca:=by
 rw[<-h.ow,Gl];apply oo;intro L _;cases L<;>simp[Hd,Ca]
theorem Vk{d}(l):(Ta d l).filter (Hd D)=Ta d (l.filter (Hd D)):=by
 grind [Ta,List.filter_filter]
theorem Qu(p)(l:List Loc):(l.filter p).filter (Hd D)=(l.filter (Hd D)).filter p:=by
 grind [List.filter_filter]
def VN{L}(h:Hd D L=true)(l):(L::l).filter (Hd D)=L::l.filter (Hd D):=ia
theorem tz{b}:∀(o)(l),∀L∈fd b o l,Ca L=true
 |_,[],L,h=>by grind [fd]
 |o,p::r,L,h=>by
  simp only[fd]at h;split at h
  ·rcases Wb.1 h with rfl|h
   ·rfl
   ·exact tz (o+1) r L h
  ·exact tz (o+1) r L h
def jD{b o}{l}(m):(fd b o l++m).filter (Hd D)=fd b o l++m.filter (Hd D):=by
 rw[List.filter_append];congr 1;refine Aw.2 fun L a=>?_
 have:=tz o l L a;cases L with
 |slot i=>cases this
 |cell=>rfl
def kk{d}{l}{L}:L∈Ta d l->L∈l:=fun h=>(Hc.1 h).1
def Part.mk'(h:Part N D s1 s){d}{v}(g:d∉D){ow1 ow}{al}{bx}(b:ow1.filter (Hd D)=ow)(a:∀q∈al,q.1∉D/\Hd D q.2=true)(c:∀x,x∈D->¬N x->.slot x∉ow1):
 Part N D ⟨(d,v)::s1.sl,ow1,al,bx⟩ ⟨(d,v)::s.sl,ow,al,bx⟩:=
 ⟨fun x e=>by simp only[oe];split;rfl;exact h.sl x e,b,rfl,rfl,a,c⟩
def Part.oz(h:Part N D s1 s){ow1 ow}{al}{bx}(b:ow1.filter (Hd D)=ow)(a:∀q∈al,q.1∉D/\Hd D q.2=true)(c:∀x,x∈D->¬N x->.slot x∉ow1):
 Part N D ⟨s1.sl,ow1,al,bx⟩ ⟨s.sl,ow,al,bx⟩:=
 ⟨h.sl,b,rfl,rfl,a,c⟩
def Part.Ns(h:Part N D s1 s)(d):∀q∈Jb d s.al,q.1∉D/\Hd D q.2=true:=fun q a=>h.no q (Hc.1 a).1
theorem Part.put(h:Part N D s1 s){d}(e:d∉D)(v):Part N D (s1.put d v) (s.put d v):=by
 have:=h.mk' (v:=v) e (ow1:=Ta d s1.ow) (ow:=Ta d s.ow) (al:=Jb d s.al) (bx:=s.bx) (by rw[Vk,h.ow]) (h.Ns d) fun x a b c=>h.un x a b (kk c)
 grind [St.put,al,bx]
def zA{d}(e:d∉D){l}(h:∀x,x∈D->¬N x->.slot x∉l):∀x,x∈D->¬N x->.slot x∉(.slot d::l:List Loc):=fun x a b c=>by
 grind
def zdH{b o}{l}(h:∀x,x∈D->¬N x->.slot x∉l):∀x,x∈D->¬N x->.slot x∉(.cell b o::l:List Loc):=fun x a c d=>by
 grind
def SH{b o}{ps}{l}(h:∀x,x∈D->¬N x->.slot x∉l):∀x,x∈D->¬N x->.slot x∉(fd b o ps++l):=fun x c d a=>by
 rcases wg.1 a with a|a
 ·have:=tz o ps _ a;cases this
 grind
theorem Part.yc(h:Part N D s1 s){d}(a:d∉D)(v):Part N D (s1.yc d v) (s.yc d v):=by
 have:=h.mk' (v:=v) a (ow1:=.slot d::Ta d s1.ow) (ow:=.slot d::Ta d s.ow) (al:=Jb d s.al) (bx:=s.bx) (by grind [bm,Vk,ow]) (h.Ns d)
  (zA a fun x b c e=>h.un x b c (kk e))
 grind [St.yc,al,bx]
theorem Part.Uc(h:Part N D s1 s){d}(a:∀x,d=some x->x∉D)(v):Part N D (s1.Uc d v) (s.Uc d v):=by
 cases d with
 |none=>exact h
 |some d=>exact h.put (a d rfl) v
theorem Part.Dc(h:Part N D s1 s){d}(g:∀x,d=some x->x∉D){f}{az}(hs:wa.Dc cf s d f az=some s'):∃b,wa.Dc cf s1 d f az=some b/\Part N D b s':=by
 unfold wa.Dc at hs⊢;rw[h.cells,h.bx];obtain⟨⟨vs,os,bx,oc⟩,c,rfl⟩:=qm hs;rw[c];refine⟨_,rfl,?_⟩;have e:Part N D ⟨s1.sl,oc.filter Ca++s1.ow.filter (fun L=>!Ca L),s1.al.filter fun p=>!Ca p.2,bx⟩ ⟨s.sl,oc.filter Ca++s.ow.filter (fun L=>!Ca L),s.al.filter fun p=>!Ca p.2,bx⟩:=by
  rw[h.al];refine h.oz ?_ (fun q l=>h.no q (Hc.1 l).1) fun x c j a=>?_
  ·rw[List.filter_append,Qu (fun L=>!Ca L),h.ow]
   congr 1;refine Aw.2 fun L k=>?_
   have:=(Hc.1 k).2;cases L with
   |slot i=>cases this
   |cell=>rfl
  ·rcases wg.1 a with a|a
   ·have:=(Hc.1 a).2;cases this
   ·exact h.un x c j (Hc.1 a).1
 cases d with
 |none=>exact e
 |some d=>
  cases os
  ·exact e.put (g d rfl) _
  ·exact e.yc (g d rfl) _
theorem Part.Sd(h:Part N D s1 s){d}(c:∀x,d=some x->x∉D){f}{az}(hs:wa.Sd cf s d f az=some s'):∃b,wa.Sd cf s1 d f az=some b/\Part N D b s':=by
 unfold wa.Sd at hs⊢;split at hs
 ·rename_i e
  rw[if_pos e];obtain⟨⟨vs,os,bx,oc⟩,i,a⟩:=qb hs;rw[i,Ra];dsimp only at a⊢;split at a
  ·rename_i g
   rw[if_pos g];cases d with
   |none=>grind
   |some d=>
    cases os
    ·cases a;exact⟨_,rfl,h.put (c d rfl) _⟩
    ·cases a;exact⟨_,rfl,h.yc (c d rfl) _⟩
  ·rename_i g
   rw[if_neg g];exact h.Dc c a
 ·rename_i e
  rw[if_neg e];exact h.Dc c hs
def Part.xev(h:Part N D s1 s){x:X}(b:∀i∈x.Bl,¬N i):x.ev s1.sl=x.ev s.sl:=xI fun i a=>h.sl i (b i a)
theorem Part.origin(h:Part N D s1 s){t}(ht:¬N t):wa.origin s1 t=wa.origin s t:=by
 unfold wa.origin;have:=h.own (L:=.slot t) fun i e=>by grind
 grind [al]
theorem Part.ab(h:Part N D s1 s)(g:∀x,N x->x∈D){t}(ht:¬N t){L}(a:wa.origin s t=some L):wa.ab s1 L=wa.ab s L/\(L∈s1.ow ↔ L∈s.ow)/\∀i,L=.slot i->¬N i:=by
 have c:∀i,L=.slot i->¬N i:=fun i e=>by
  unfold wa.origin at a;split at a
  ·grind
  ·obtain⟨q,d,rfl⟩:=qm a
   have:=(h.no q (List.mem_of_find?_eq_some d)).2
   grind [bm]
 refine⟨?_,h.own c,c⟩;cases L with
 |slot i=>simp only[wa.ab];rw[h.sl i (c i rfl)]
 |cell b o=>grind [wa.ab,bx]
def bB:Ea->Option Nat
 | .mvA s=>some s
 |_=>none
theorem m1(h:Part N D s1 s)(P:∀x,N x->x∈D){d}(u:∀x,d=some x->x∉D){c}(hr:∀x∈c.xs,∀i∈x.Bl,¬N i)(W:∀i,bB c=some i->i∉D)(hs:na cf s d c=some s'):∃Q,na cf s1 d c=some Q/\Part N D Q s':=by
 have B:∀x∈c.xs,x.ev s1.sl=x.ev s.sl:=fun x B=>h.xev (hr x B)
 by_cases S:Ni c=true
 ·rw[co S]at hs⊢
  rw[wH B];obtain⟨p,r,rfl⟩:=qm hs;rw[r];exact⟨_,rfl,h.Uc u p⟩
 cases c<;>try (exact absurd rfl S)
 case mvA x=>
  simp only[na]at hs⊢;obtain⟨d,rfl,l⟩:=qb hs;split at l
  ·cases l
  ·rename_i F
   cases l;have G:look s1.sl x=look s.sl x:=B (.t x) (by simp[Ea.xs]);refine⟨_,by rw[Ra,if_neg F],?_⟩;unfold St.put;rw[G,h.al,h.bx];refine h.mk' (u d rfl) (by rw[Vk,h.ow]) (fun q A=>?_) fun y r l w=>h.un y r l (kk w)
   rcases Wb.1 A with rfl|A
   ·exact⟨u d rfl,bm.2 (W x rfl)⟩
   ·exact h.Ns d q A
 case asg x=>
  cases x with
  |c v=>exact absurd rfl S
  |t i=>
   have H:¬N i:=hr (.t i) (by simp[Ea.xs]) i (by simp[X.Bl]);have G:look s1.sl i=look s.sl i:=h.sl i H;have C:=h.own (L:=.slot i) fun j e=>by grind
   simp only[na]at hs⊢;cases d with
   |none=>cases hs
   |some d=>
    dsimp only at hs⊢;split at hs
    ·cases hs
    ·rename_i hid
     rw[if_neg hid];split at hs
     ·rename_i J
      cases hs;rw[if_pos (C.2 J)];refine⟨_,rfl,?_⟩;rw[G,h.al,h.bx];refine h.mk' (u d rfl) (by grind [bm,Vk,Part.ow]) (fun q A=>h.no q (Hc.1 (Hc.1 A).1).1) (zA (u d rfl) fun y r l w=>h.un y r l (kk (kk w)))
     ·rename_i J
      cases hs;rw[if_neg fun k=>J (C.1 k),G];exact⟨_,rfl,h.put (u d rfl) _⟩
 case alloc e zs=>
  obtain⟨d,rfl,rfl⟩:=qm hs;refine⟨_,rfl,?_⟩;unfold St.put;rw[h.al,h.bx];exact h.mk' (u d rfl) (by rw[jD,Vk,h.ow]) (h.Ns d) (SH fun y r l w=>h.un y r l (kk w))
 case box e n x=>
  have z:=B x (by simp[Ea.xs]);simp only[na]at hs⊢;obtain⟨d,rfl,l⟩:=qb hs;split at l
  ·rename_i E
   cases l;refine⟨_,by rw[Ra,z,if_pos E],?_⟩;unfold St.put;rw[h.al,h.bx];exact h.mk' (u d rfl) (by rw[jD,Vk,h.ow]) (h.Ns d) (SH fun y r l w=>h.un y r l (kk w))
  grind
 case mksl R n size zs ps=>
  simp only[na]at hs⊢;obtain⟨d,rfl,l⟩:=qb hs;obtain⟨cs,r,w⟩:=qb l;have:(ps.map fun q=>(q.1,q.2.1,q.2.2.ev s1.sl))=ps.map fun q=>(q.1,q.2.1,q.2.2.ev s.sl):=Fl fun q A=>by rw[B q.2.2 (Ik.2 ⟨q,A,rfl⟩)]
  split at w
  ·cases w
   refine⟨_,ia,h.yc (u d rfl) _⟩
  grind
 case b2s x=>
  simp only[na]at hs⊢;obtain⟨p,r,rfl⟩:=qm hs;rw[B x (by simp[Ea.xs]),h.bx,r];exact⟨_,rfl,h.Uc u p⟩
 case load F n x=>
  simp only[na]at hs⊢;obtain⟨d,rfl,l⟩:=qb hs;obtain⟨p,r,rfl⟩:=qm l;rw[B x (by simp[Ea.xs]),h.bx,r];exact⟨_,rfl,h.put (u d rfl) p⟩
 case loadA x=>
  have z:=B x (by simp[Ea.xs]);simp only[na]at hs⊢;obtain⟨d,rfl,l⟩:=qb hs;split at l
  ·rename_i b o e
   obtain⟨p,r,rfl⟩:=qm l;rw[z,e,h.bx];refine⟨_,by simp only[Ra,r,kd];rfl,?_⟩;unfold St.put;rw[h.al,h.bx];refine h.mk' (u d rfl) (by rw[Vk,h.ow]) (fun q A=>?_) fun y r l w=>h.un y r l (kk w)
   rcases Wb.1 A with rfl|A
   ·exact⟨u d rfl,rfl⟩
   ·exact h.Ns d q A
  grind
 case loadM x=>
  have z:=B x (by simp[Ea.xs]);simp only[na]at hs⊢;obtain⟨d,rfl,l⟩:=qb hs;split at l
  ·rename_i b o e
   obtain⟨p,r,l⟩:=qb l;split at l
   case isFalse=>cases l
   rename_i E;cases l;rw[z,e,h.bx];refine⟨_,by simp only[Ra,r];rw[if_pos ((h.own (L:=.cell b o) fun i e=>by cases e).2 E)],?_⟩;unfold St.put;rw[h.bx];refine h.mk' (u d rfl) (by grind [bm,Qu,Vk,Part.ow]) (fun q A=>by cases A) fun y r l w=>?_
   rcases Wb.1 w with w|w
   ·grind
   ·exact h.un y r l (kk (Hc.1 w).1)
  grind
 case store n a x=>
  have T:=B a (by simp[Ea.xs]);have z:=B x (by simp[Ea.xs]);simp only[na]at hs⊢;split at hs
  ·rename_i b o e
   rw[T,z,h.bx]
   try rw[e]
   try dsimp only
   obtain⟨q,r,l⟩:=qb hs;rw[r,Ra];split at l
   ·rename_i E
    rw[if_pos E];have F:∀q∈s.al.filter (fun p=>!Nd b o n p.2),q.1∉D/\Hd D q.2=true:=fun q A=>h.no q (Hc.1 A).1
    have K:(fd b o (x.ev s.sl).cells++s1.ow.filter fun L=>!Nd b o n L).filter (Hd D)=fd b o (x.ev s.sl).cells++s.ow.filter fun L=>!Nd b o n L:=by rw[jD,Qu,h.ow]
    have M:∀y,y∈D->¬N y->.slot y∉(fd b o (x.ev s.sl).cells++s1.ow.filter fun L=>!Nd b o n L):=SH fun y r l w=>h.un y r l (Hc.1 w).1
    cases x with
    |c v=>
     cases l;refine⟨_,rfl,?_⟩;rw[h.al];exact h.oz K F M
    |t i=>
     have H:¬N i:=hr (.t i) (by simp[Ea.xs]) i (by simp[X.Bl]);have C:=h.own (L:=.slot i) fun j e=>by grind
     dsimp only at l⊢;split at l
     ·rename_i J
      cases l;rw[if_pos (C.2 J)];refine⟨_,rfl,?_⟩;rw[h.al];exact h.oz (by rw[VN rfl,Vk,K]) (fun q A=>F q (Hc.1 A).1) (zdH fun y r l w=>M y r l (kk w))
     ·rename_i J
      cases l;rw[if_neg fun k=>J (C.1 k)];refine⟨_,rfl,?_⟩;rw[h.al];exact h.oz K F M
   grind
  grind
 case append R size x y=>
  have z:=B x (by simp[Ea.xs]);have O:=B y (by simp[Ea.xs]);simp only[na]at hs⊢;rw[z,O];split at hs
  ·rename_i I
   rw[if_pos I];split at hs
   ·split at hs
    ·rename_i E
     rw[if_pos E];obtain⟨d,rfl,rfl⟩:=qm hs;refine⟨_,rfl,?_⟩;split
     ·exact h.put (u d rfl) _
     ·exact h.yc (u d rfl) _
    grind
   grind
  ·rename_i I
   rw[if_neg I];cases x with
   |c v=>cases hs
   |t i=>
    have H:¬N i:=hr (.t i) (by simp[Ea.xs]) i (by simp[X.Bl]);dsimp only at hs⊢;obtain⟨L,r,hs⟩:=qb hs;obtain⟨d,rfl,hs⟩:=qb hs;obtain⟨U,V,Y⟩:=h.ab P H r;rw[h.origin H,r,Ra,Ra,U];split at hs
    ·split at hs
     ·rename_i E
      cases hs;obtain⟨c1,c2,c3,c4,c5⟩:=E;refine⟨_,by rw[if_pos ⟨c1,c2,c3,V.2 c4,c5⟩],?_⟩;rw[h.al,h.bx];exact h.mk' (u d rfl) (by rw[VN (bm.2 (u d rfl)),Vk,Qu,h.ow]) (fun q A=>h.no q (Hc.1 (Hc.1 A).1).1) (zA (u d rfl) fun y r l w=>h.un y r l (Hc.1 (kk w)).1)
     ·cases hs
    ·cases hs
 case appendS x y=>
  have z:=B x (by simp[Ea.xs]);have O:=B y (by simp[Ea.xs]);simp only[na]at hs⊢;rw[z,O];split at hs
  ·rename_i I
   rw[if_pos I];split at hs
   ·split at hs
    ·rename_i E
     rw[if_pos E];obtain⟨d,rfl,rfl⟩:=qm hs;refine⟨_,rfl,?_⟩;split
     ·exact h.put (u d rfl) _
     ·exact h.yc (u d rfl) _
    grind
   grind
  ·rename_i I
   rw[if_neg I];cases x with
   |c v=>cases hs
   |t i=>
    have H:¬N i:=hr (.t i) (by simp[Ea.xs]) i (by simp[X.Bl]);dsimp only at hs⊢;obtain⟨L,r,hs⟩:=qb hs;obtain⟨d,rfl,hs⟩:=qb hs;obtain⟨U,V,Y⟩:=h.ab P H r;rw[h.origin H,r,Ra,Ra,U];split at hs
    ·split at hs
     ·rename_i E
      cases hs;obtain⟨c1,c2,c3,c4⟩:=E;refine⟨_,by rw[if_pos ⟨c1,c2,V.2 c3,c4⟩],?_⟩;rw[h.al,h.bx];exact h.mk' (u d rfl) (by grind [bm,Vk,Qu,Part.ow]) (fun q A=>h.no q (Hc.1 (Hc.1 A).1).1) (zA (u d rfl) fun y r l w=>h.un y r l (Hc.1 (kk w)).1)
     ·cases hs
    ·cases hs
 case call f args=>
  have:(args.map fun x=>(x.ev s1.sl).Hb)=args.map fun x=>(x.ev s.sl).Hb:=Fl fun x h=>by rw[B x h]
  simp only[na]at hs⊢;rw[this];exact h.Sd u hs
 case callv g args=>
  have:(args.map fun x=>(x.ev s1.sl).Hb)=args.map fun x=>(x.ev s.sl).Hb:=Fl fun x h=>by rw[B x (po _ h)]
  simp only[na]at hs⊢;rw[this,B g (by simp[Ea.xs])];split at hs
  ·split at hs
   ·cases hs
   ·rename_i F
    rw[if_neg F];exact h.Sd u hs
  ·exact h.Dc u hs
  grind
def frame(h:Part N D s1 s)(e:∀x,N x->x∈D){o}(g:∀x,o.dst=some x->x∉D)(hr:∀i∈o.reads,¬N i)(l:∀i,bB o.op=some i->i∉D)(hs:stepG cf s o=some s'):∃a,stepG cf s1 o=some a/\Part N D a s':=by
 have j:de s1 o.g=de s o.g:=by
  cases k:o.g with
  |none=>rfl
  |some q=>
   obtain⟨i,w⟩:=q;simp only[de];rw[h.sl i (hr i (by simp[Qa.reads,k]))]
 unfold stepG at hs⊢;rw[j];obtain⟨b,d,c⟩:=qb hs;rw[d,Ra];cases b with
 |false=>
  simp only[Fa,if_false,Xb]at c⊢;subst c;exact⟨_,rfl,h.Uc g _⟩
 |true=>
  grind [m1,Qa.reads]
end
def Av:Ea->Bool
 | .load ..=>true
 |_=>false
def Rz(qs:List FuncId):Ea->Bool
 | .call f _=>qs.contains f
 |_=>false
def ft(qs:List FuncId)(c:Ea):Bool:=Ni c||(Av c||Rz qs c)
def vA:Ea->Bool
 | .store .. | .call .. | .callv .. | .alloc .. | .box .. | .loadA .. | .loadM .. | .append .. | .appendS ..=>true
 |_=>false
def RA:Ea->Bool
 | .store .. | .call .. | .callv ..=>true
 |_=>false
section
variable {cf:Callee} {st st' stk:St}
def Ow(st a:St)(c:Ea):Prop:=(Av c=true->∃z,a.bx=st.bx++z)/\(Ni c=false->Av c=false->a.bx=st.bx/\a.ow.filter Ca=st.ow.filter Ca/\∀q∈a.al,Ca q.2=false)
structure Di (s s':St):Prop where
 sl:∀ x,look s'.sl x=look s.sl x
 ow:∀ L,L∈s.ow→L∈s'.ow
 al:∀ q,q∈s.al→q∈s'.al
 bx:s'.bx=s.bx
def Di.rfl'(s):Di s s:=⟨fun _=>rfl,fun _ h=>h,fun _ h=>h,rfl⟩
theorem SS{d}{f}{az}{a}(h:Dc cf st (some d) f az=some st')(k:st'.bx=st.bx)(e:st'.ow.filter Ca=st.ow.filter Ca)(b:a.bx=st.bx)(c:a.ow.filter Ca=st.ow.filter Ca)(j:∀q∈a.al,Ca q.2=false):
 ∃s',Dc cf a (some d) f az=some s'/\Di (a.put d (look st'.sl d)) s':=by
 unfold Dc at h⊢;rw[b,c];obtain⟨⟨vs,os,bx,oc⟩,i,rfl⟩:=qm h;rw[i];refine⟨_,rfl,?_⟩;have g:oc.filter Ca=st.ow.filter Ca:=by
  rw[<-e];have e1:∀l:List Loc,(Ta d l).filter Ca=l.filter Ca:=fun l=>by
   unfold Ta;rw[Gl];apply oo;intro L _;cases L<;>simp[Ca,Xd]
  have e2:(oc.filter Ca++st.ow.filter (fun L=>!Ca L)).filter Ca=oc.filter Ca:=by
   rw[List.filter_append,Gl,Gl];have:st.ow.filter (fun L=>Ca L&& !Ca L)=[]:=List.filter_eq_nil_iff.2 fun L _=>by simp
   rw[this,Ye];apply oo;intro L _;simp
  cases os
  ·show _=(Ta d _).filter Ca
   grind
  ·show _=(.slot d::Ta d _:List Loc).filter Ca
   grind [Ca]
 grind [Ta,Jb,Di.mk,St.put,oe,St.yc]
def zab{d}{f}{az}{a}(h:Sd cf st (some d) f az=some st')(g:st'.bx=st.bx)(i:st'.ow.filter Ca=st.ow.filter Ca)(b:a.bx=st.bx)(c:a.ow.filter Ca=st.ow.filter Ca)(e:∀q∈a.al,Ca q.2=false):
 ∃s',Sd cf a (some d) f az=some s'/\Di (a.put d (look st'.sl d)) s':=by
 unfold Sd at h⊢;split at h
 ·obtain⟨⟨vs,os,bx,oc⟩,j,k⟩:=qb h
  grind [Di.mk,St.put,oe,St.yc,SS]
 grind [SS]
theorem zbX{qs}{o}{d}(l:ft qs o.op=true)(A:o.dst=some d)(h:Jc cf st o=some st'):
 ∃p,st'=st.put d p/\∀a,(∀x∈o.reads,look a.sl x=look st.sl x)->Ow st a o.op->∃s',stepG cf a o=some s'/\Di (a.put d p) s':=by
 obtain⟨dst,g,c⟩:=o;subst A;have i:∀b,de st g=some b->∀a:St,(∀s∈(Qa.mk (some d) g c).reads,look a.sl s=look st.sl s)->de a g=some b:=fun b j a h=>by
  grind [de,Qa.reads]
 have y:∀a:St,(∀s∈(Qa.mk (some d) g c).reads,look a.sl s=look st.sl s)->∀x∈c.xs,x.ev a.sl=x.ev st.sl:=fun a h=>hD fun s hs=>h s (by grind [Qa.reads])
 by_cases q:Ni c=true
 ·have hs:stepG cf st ⟨some d,g,c⟩=some st':=by
   unfold Jc at h;cases c<;>first|exact h|(cases q;done)
  obtain⟨b,j,e⟩:=qb hs;cases b with
  |false=>
   simp only[Fa,if_false,Xb]at e;subst e;exact⟨.Mb [],rfl,fun a hr _=>⟨_,by unfold stepG;simp only[i _ j a hr,Ra,Fa,if_false];rfl,Di.rfl' _⟩⟩
  |true=>
   rw[co q]at e;obtain⟨p,r,rfl⟩:=qm e;refine⟨p,rfl,fun a hr _=>⟨a.put d p,?_,Di.rfl' _⟩⟩;unfold stepG;simp only[i _ j a hr,Ra,if_true,co q,wH (y a hr),r];rfl
 ·have v:Ni c=false:=by simpa using q
  unfold ft at l;rw[v]at l;simp only[Ch,Bool.or_eq_true]at l;rcases l with B|C
  ·cases c<;>try (cases B;done)
   case load t n x=>
    have hs:stepG cf st ⟨some d,g,.load t n x⟩=some st':=h;obtain⟨b,j,e⟩:=qb hs;cases b with
    |false=>
     simp only[Fa,if_false,Xb]at e;subst e;exact⟨.Mb [],rfl,fun a hr _=>⟨_,by unfold stepG;simp only[i _ j a hr,Ra,Fa,if_false];rfl,Di.rfl' _⟩⟩
    |true=>
     obtain⟨p,r,rfl⟩:=qm e;refine⟨p,rfl,fun a hr k=>⟨a.put d p,?_,Di.rfl' _⟩⟩;obtain⟨z,k⟩:=k.1 rfl;unfold stepG;simp only[i _ j a hr,Ra,if_true,na,y a hr x (by simp[Ea.xs]),k,XP z r,kd]
  ·cases c<;>try (cases C;done)
   case call f args=>
    obtain⟨s',hs,h⟩:=qb h;split at h
    case isFalse=>cases h
    rename_i w;cases h;obtain⟨t,u⟩:=w;refine⟨_,rfl,fun a hr k=>?_⟩;obtain⟨D,E,z3⟩:=k.2 rfl rfl;unfold stepG at hs⊢;obtain⟨b,j,e⟩:=qb hs;rw[i _ j a hr,Ra];cases b with
    |false=>
     grind [Di.mk,St.Uc,St.put,oe]
    |true=>
     simp only[if_true,na]at e⊢;have:(args.map fun x=>(x.ev a.sl).Hb)=args.map fun x=>(x.ev st.sl).Hb:=Fl fun x h=>by rw[y a hr x h]
     rw[this];exact zab e t u D E z3
theorem TR{qs}{D}:∀(l)(st stk),ye cf l st=some stk->l.Pairwise (fun o T=>∀d,T.dst=some d->d∉o.reads/\o.dst≠some d)->(∀o∈l,ft qs o.op=true/\o.dst.isSome=true/\∀d,o.dst=some d->d∉o.reads)->(∀d,d∈D ↔ ∃o∈l,o.dst=some d)->st.al=[]->
 stk.bx=st.bx/\stk.al=[]/\(∀L,L∈stk.ow ↔ L∈st.ow/\Hd D L=true)/\stk.ow=st.ow.filter (Hd D)/\(∀x,x∉D->look stk.sl x=look st.sl x)/\
 ∀o∈l,∀d,o.dst=some d->∀a,(∀x∈o.reads,look a.sl x=look stk.sl x)->Ow stk a o.op->∃s',stepG cf a o=some s'/\Di (a.put d (look stk.sl d)) s'
 |[],st,stk,h,_,_,K,c=>by
  simp only[ye,Xb]at h;have b:∀L,Hd D L=true:=fun L=>by
   cases L with
   |slot i=>grind [bm]
   |cell=>rfl
  grind [List.filter_eq_self]
 |o::l,st,stk,h,G,E,K,c=>by
  obtain⟨s1,I,J⟩:=qb h;obtain⟨r,t,z⟩:=E o Mt;obtain⟨d,C⟩:=GA.1 t;obtain⟨p,rfl,j⟩:=zbX r C I;rw[List.pairwise_cons]at G;obtain⟨b,M⟩:∃b:List Nat,b=l.filterMap (·.dst):=⟨_,rfl⟩;have k:∀x,x∈b ↔ ∃o∈l,o.dst=some x:=fun x=>by grind
  have e:(st.put d p).al=[]:=by simp[St.put,c,Jb]
  obtain⟨A,P,X,Q,R,S⟩:=TR (D:=b) l _ stk J G.2 (fun o N=>E o (po _ N)) k e;have n:d∉b:=fun F=>by
   grind
  have B:∀L,Hd D L=(Hd b L&& !Xd d L):=fun L=>by
   cases L<;>grind [Hd,Xd]
  have u:look stk.sl d=p:=by rw[R d n];simp[St.put,oe]
  refine⟨A,P,fun L=>?_,?_,fun x O=>?_,fun q y=>?_⟩
  ·grind [St.put,Ta]
  ·grind [St.put,Ta,List.filter_filter,List.filter_congr]
  ·grind [St.put,oe]
  ·rcases Wb.1 y with rfl|y
   ·intro W g a hr H
    rw[C]at g;cases g;rw[u];refine j a (fun x O=>?_) ⟨fun F=>?_,fun v w=>?_⟩
    ·grind [St.put,oe]
    ·rw[<-show stk.bx=st.bx from A];exact H.1 F
    ·obtain⟨U,V,z3⟩:=H.2 v w
     refine⟨by rw[U];exact A,?_,z3⟩;rw[V,Q,Gl];simp only[St.put,Ta];rw[Gl];apply oo;intro L _;cases L<;>simp[Ca,Hd,Xd]
   ·exact S q y
end
instance:Inhabited Qa:=⟨⟨none,none,.alloc 0 []⟩⟩
def Qq(g:Nat->BT)(cs:List Qa):List Nat->BT
 |[]=>.done
 |[j]=>.one (cs.getD j default) (g j)
 |j::k::r=>.two (cs.getD j default) (g j) (Qq g cs (k::r))
def Ov(n:Nat)(b:List (List Nat))(ps a:List Nat):List Nat:=(List.range n).filter fun j=>!ps.contains j&&(!a.contains j&&(b.getD j []).all fun x=>ps.contains x||a.contains x)
def rp(n:Nat)(a:List (List Nat))(ps:List Nat)(cs:List Qa):Nat->List Nat->BT
 |0,_=>.done
 |f+1,b=>Qq (fun j=>rp n a ps cs f (j::b)) cs (Ov n a ps b)
def Va(cs:List Qa)(i:Nat):Qa:=cs.getD i default
def Zx(qs:List FuncId)(ops:Array Oper)(cs:List Qa)(ps:List Nat):Bool:=
 let a:=Nk ops
 let n:=ops.size
 cs.length==n&&
 (List.range n).all (fun i=>(Hg ops i).all (·<i))&&
 ps.all (fun i=>decide (i<n)&&(ft qs (Va cs i).op&&(Va cs i).dst.isSome))&&
 ps.all (fun i=>(List.range n).all fun j=>i==j||(Va cs j).dst !=(Va cs i).dst)&&
 (List.range n).all (fun i=>(Va cs i).reads.all fun s=>ps.all fun j=>(Va cs j).dst !=some s||(decide (j<i)&&(a.getD i []).contains j))&&
 ps.all (fun i=>(Va cs i).reads.all fun s=>(List.range n).all fun j=>(Va cs j).dst !=some s||(ps.contains j||(a.getD j []).contains i))&&
 ps.all (fun i=>!Av (Va cs i).op||(List.range n).all fun j=>!RA (Va cs j).op||(ps.contains j||(a.getD j []).contains i))&&
 ps.all (fun i=>!Rz qs (Va cs i).op||(List.range n).all fun j=>!vA (Va cs j).op||(ps.contains j||(a.getD j []).contains i))&&
 (List.range n).all (fun j=>ps.contains j||(match bB (Va cs j).op with|some s=>ps.all fun i=>(Va cs i).dst !=some s|none=>true))&&
 decide (ps.Pairwise (·<·))
section
variable {P:Program} {w w':World} {r:Option Nat} {a a':Act} {cf:Callee} {Γ:Ze} {S:S0}
def iA{α}{a b}{x:α}(h:same a b=some x):a=some x/\b=some x:=by
 grind [same]
theorem TN{live}{g}{cs}{s F}:∀(l),yd cf live (Qq g cs l) s=some F->∀j∈l,∃s',stepG cf s (Va cs j)=some s'/\yd cf live (g j) s'=some F
 |[],_,j,a=>by cases a
 |[i],h,j,a=>by
  obtain rfl:j=i:=ia
  exact qb h
 |i::k::l,h,j,a=>by
  obtain⟨b,c⟩:=iA h;rcases Wb.1 a with rfl|a
  ·exact qb b
  ·exact TN (k::l) c j a
theorem e0{s s'}{d}{c}(j:RA c=false)(h:na cf s d c=some s'):∃z,s'.bx=s.bx++z:=by
 have put:∀(d:Option Nat) v,(s.Uc d v).bx=s.bx++[]:=fun d v=>by cases d<;>simp[St.Uc,St.put]
 by_cases l:Ni c=true
 ·grind [co,Option.map_eq_some_iff]
 cases c<;>try (exact absurd rfl l)
 case mvA x=>
  obtain⟨d,rfl,a⟩:=qb h;split at a
  ·cases a
  ·cases a;exact⟨[],by simp[St.put]⟩
 case asg x=>
  cases x with
  |c v=>exact absurd rfl l
  |t i=>
   simp only[na]at h;cases d with
   |none=>cases h
   |some d=>
    dsimp only at h;split at h
    ·cases h
    ·split at h<;>(cases h;exact⟨[],by simp[St.put]⟩)
 case alloc e zs=>
  simp only[na]at h
  grind [Option.map_eq_some_iff]
 case box e n x=>
  simp only[na]at h
  grind [Option.bind_eq_some_iff]
 case mksl g n size zs ps=>
  obtain⟨d,rfl,a⟩:=qb h;obtain⟨cs,b,k⟩:=qb a;split at k
  ·cases k;exact⟨[],by simp[St.yc]⟩
  grind
 case b2s x=>
  simp only[na]at h
  grind [Option.map_eq_some_iff]
 case load k n x=>
  obtain⟨d,rfl,a⟩:=qb h;obtain⟨p,b,rfl⟩:=qm a;exact⟨[],by simp[St.put]⟩
 case loadA x=>
  obtain⟨d,rfl,a⟩:=qb h;split at a
  ·obtain⟨p,b,rfl⟩:=qm a
   exact⟨[],by simp[St.put]⟩
  grind
 case loadM x=>
  obtain⟨d,rfl,a⟩:=qb h;split at a
  ·obtain⟨p,b,a⟩:=qb a
   split at a
   ·cases a;exact⟨[],by simp[St.put]⟩
   grind
  grind
 case store=>cases j
 case append g size x y=>
  simp only[na]at h;split at h
  ·split at h
   ·split at h
    ·obtain⟨d,rfl,rfl⟩:=qm h
     refine⟨[],?_⟩
     grind [St.put,St.yc]
    grind
   grind
  ·split at h
   ·obtain⟨L,b,h⟩:=qb h
    obtain⟨d,rfl,h⟩:=qb h;split at h
    ·split at h
     ·cases h;simp
     ·cases h
    ·cases h
   grind
 case appendS x y=>
  simp only[na]at h;split at h
  ·split at h
   ·split at h
    ·obtain⟨d,rfl,rfl⟩:=qm h
     refine⟨[],?_⟩
     grind [St.put,St.yc]
    grind
   grind
  ·split at h
   ·obtain⟨L,b,h⟩:=qb h
    obtain⟨d,rfl,h⟩:=qb h;split at h
    ·split at h
     ·cases h;simp
     ·cases h
    grind
   grind
 case call=>cases j
 case callv=>cases j
def f0{s s'}{o}(d:RA o.op=false)(h:stepG cf s o=some s'):∃z,s'.bx=s.bx++z:=by
 obtain⟨b,c,a⟩:=qb h;cases b with
 |false=>
  simp only[Fa,if_false,Xb]at a;subst a;exact⟨[],by cases o.dst<;>simp[St.Uc,St.put]⟩
 |true=>grind [e0]
theorem bQ{s s'}{d}{f}{az}(h:Dc cf s d f az=some s')(x)(a:d≠some x):look s'.sl x=look s.sl x:=by
 grind [Dc,Option.map_eq_some_iff,St.put,St.yc,oe]
theorem cQ{s s'}{d}{f}{az}(h:Sd cf s d f az=some s')(x)(a:d≠some x):look s'.sl x=look s.sl x:=by
 grind [Sd,Option.bind_eq_some_iff,St.put,St.yc,oe,bQ]
theorem y6{s s'}{d}{c}(h:na cf s d c=some s')(x)(k:d≠some x):look s'.sl x=look s.sl x:=by
 have put:∀(d:Option Nat) v,d≠some x->look (s.Uc d v).sl x=look s.sl x:=fun d v u=>by
  cases d<;>grind [St.Uc,St.put,oe]
 by_cases r:Ni c=true
 ·grind [co,Option.map_eq_some_iff]
 have b:∀(d:Nat) v,some d≠some x->look ((d,v)::s.sl) x=look s.sl x:=fun d v u=>by
  grind [oe]
 cases c<;>try (exact absurd rfl r)
 case mvA x=>
  obtain⟨d,rfl,j⟩:=qb h;split at j
  ·cases j
  ·cases j;exact b _ _ k
 case asg y=>
  cases y with
  |c v=>exact absurd rfl r
  |t i=>
   simp only[na]at h;cases d with
   |none=>cases h
   |some d=>
    dsimp only at h;split at h
    ·cases h
    ·split at h<;>(cases h;exact b _ _ k)
 case alloc e zs=>
  obtain⟨d,rfl,rfl⟩:=qm h;exact b _ _ k
 case box e n x=>
  obtain⟨d,rfl,j⟩:=qb h;split at j
  ·cases j;exact b _ _ k
  grind
 case mksl l n size zs ps=>
  obtain⟨d,rfl,j⟩:=qb h;obtain⟨cs,o,q⟩:=qb j;split at q
  ·cases q;exact b _ _ k
  grind
 case b2s y=>
  simp only[na]at h
  grind [Option.map_eq_some_iff]
 case load q n y=>
  obtain⟨d,rfl,j⟩:=qb h;obtain⟨p,o,rfl⟩:=qm j;exact b _ _ k
 case loadA y=>
  obtain⟨d,rfl,j⟩:=qb h;split at j
  ·obtain⟨p,o,rfl⟩:=qm j
   exact b _ _ k
  grind
 case loadM y=>
  obtain⟨d,rfl,j⟩:=qb h;split at j
  ·obtain⟨p,o,j⟩:=qb j
   split at j
   ·cases j;exact b _ _ k
   grind
  grind
 case store n a y=>
  simp only[na]at h
  grind [Option.bind_eq_some_iff]
 case append l size y z=>
  simp only[na]at h;split at h
  ·split at h
   ·split at h
    ·obtain⟨d,rfl,rfl⟩:=qm h
     split<;>exact b _ _ k
    grind
   grind
  grind [Option.bind_eq_some_iff]
 case appendS y z=>
  simp only[na]at h;split at h
  ·split at h
   ·split at h
    ·obtain⟨d,rfl,rfl⟩:=qm h
     split<;>exact b _ _ k
    grind
   grind
  grind [Option.bind_eq_some_iff]
 case call f args=>
  simp only[na]at h
  grind [cQ]
 case callv g args=>
  simp only[na]at h
  grind [cQ,bQ]
theorem fQ{s s'}{o}(h:stepG cf s o=some s')(x)(e:o.dst≠some x):look s'.sl x=look s.sl x:=by
 obtain⟨b,a,c⟩:=qb h;cases b with
 |false=>
  cases d:o.dst<;>grind [St.Uc,St.put,oe]
 |true=>grind [y6]
theorem XT{s s'}{d}{c}(k:vA c=false)(h:na cf s d c=some s'):s'.bx=s.bx/\s'.ow.filter Ca=s.ow.filter Ca/\((∀q∈s.al,Ca q.2=false)->∀q∈s'.al,Ca q.2=false):=by
 have e1:∀(d:Nat)(l:List Loc),(Ta d l).filter Ca=l.filter Ca:=fun d l=>by
  unfold Ta;rw[Gl];apply oo;intro L _;cases L<;>simp[Ca,Xd]
 have e2:∀(i:Nat)(l:List Loc),(.slot i::l:List Loc).filter Ca=l.filter Ca:=fun i l=>by rfl
 have e3:∀(d:Nat)(l:List (Nat×Loc)),(∀q∈l,Ca q.2=false)->∀q∈Jb d l,Ca q.2=false:=fun d l e q b=>e q (Hc.1 b).1
 have put:∀(d:Option Nat) v,(s.Uc d v).bx=s.bx/\(s.Uc d v).ow.filter Ca=s.ow.filter Ca/\((∀q∈s.al,Ca q.2=false)->∀q∈(s.Uc d v).al,Ca q.2=false):=fun d v=>by
  cases d with
  |none=>exact⟨rfl,rfl,id⟩
  |some d=>exact⟨rfl,e1 d _,e3 d _⟩
 by_cases g:Ni c=true
 ·grind [co,Option.map_eq_some_iff]
 cases c<;>first|exact absurd rfl g|(cases k;done)|skip
 case mvA x=>
  obtain⟨d,rfl,a⟩:=qb h;split at a
  ·cases a
  ·cases a
   refine⟨rfl,e1 d _,fun e q b=>?_⟩;rcases Wb.1 b with rfl|b
   ·rfl
   grind
 case asg x=>
  cases x with
  |c v=>exact absurd rfl g
  |t i=>
   simp only[na]at h;cases d with
   |none=>cases h
   |some d=>
    dsimp only at h;split at h
    ·cases h
    ·split at h
     ·grind
     ·cases h
      exact put (some d) _
 case mksl j n size zs ps=>
  simp only[na]at h
  grind [Option.bind_eq_some_iff,St.yc]
 case b2s x=>
  simp only[na]at h
  grind [Option.map_eq_some_iff]
 case load j n x=>
  obtain⟨d,rfl,a⟩:=qb h;obtain⟨p,o,rfl⟩:=qm a;exact put (some d) p
theorem zdl{s s'}{o}(g:vA o.op=false)(h:stepG cf s o=some s'):s'.bx=s.bx/\s'.ow.filter Ca=s.ow.filter Ca/\((∀q∈s.al,Ca q.2=false)->∀q∈s'.al,Ca q.2=false):=by
 obtain⟨b,e,a⟩:=qb h;cases b with
 |false=>
  simp only[Fa,if_false,Xb]at a;subst a;exact XT (cf:=cf) (s:=s) (d:=o.dst) (c:=.mv (.c (.Mb []))) rfl ja
 |true=>grind [XT]
def B1{cs}{j}(h:j<cs.length):cs[j]?=some (Va cs j):=by simp[Va,h]
theorem qN{qs}(hcf:dc P Γ cf)(hSZ:Good Γ S){ops}{ali}{cs}{ps}{Q}{Z stk}(hok:Zx qs ops cs ps=true)
 (hco:∀(j:Nat)(c),cs[j]?=some c->∃o,ops[j]?=some o/\so P S.nt ops ali o c) (hal:Z.al=[]) (hpre:ye cf (ps.map (Va cs)) Z=some stk)
 {TP:BT->St->Prop} {Dies:Nat->St->Prop} (hmemT:∀(g)(s)(l),TP (Qq g cs l) s->∀j∈l,(∃s',stepG cf s (Va cs j)=some s'/\TP (g j) s')\/Dies j s) (hfin:∀s a w,TP .done s->Rl P S s a w->Q .normal a w)
 (hdies:∀j s,Dies j s->∀s1 o a w K,(∀x∈(Va cs j).reads,look s1.sl x=look s.sl x)->(∀x,(∀i∈ps,(Va cs i).dst≠some x)->look s1.sl x=look s.sl x)->s1.bx=s.bx->s1.ow.filter Ca=s.ow.filter Ca->so P S.nt ops ali o (Va cs j)->Rl P S s1 a w->if Region.wanted o (yielded ops a.tmps)then o.wpIn (fw r) 0 P a w K Q else(∀f,o.about P w a.eval=some f->(fw r).fn f)/\K (a.put o.dst undef) w)
 (I:TP (rp ops.size (Nk ops) ps cs ops.size []) stk) (hr:Rl P S Z a w):wpAnyIn (fw r) 0 P .any ops Q ops.size (Array.replicate ops.size false) a w:=by
 unfold Zx at hok;simp only[Vc,decide_eq_true_eq,Dj,mo,Bool.or_eq_true,bne_iff_ne,ne_eq,beq_iff_eq,List.contains_iff_mem,Bool.not_eq_true']at hok;obtain⟨⟨⟨⟨⟨⟨⟨⟨⟨hlen,hback⟩,A⟩,hdist⟩,C⟩,hwar⟩,J⟩,M⟩,hali⟩,hsort⟩:=hok;obtain⟨n,hnZ⟩:∃n,ops.size=n:=⟨_,rfl⟩;obtain⟨anZ,han⟩:∃anZ,Nk ops=anZ:=⟨_,rfl⟩;rw[hnZ]at hlen hback A hdist C hwar J M hali I;rw[han]at C hwar J M I;have hdst:∀i∈ps,∃d,(Va cs i).dst=some d:=fun i y=>GA.1 (A i y).2.2
 obtain⟨D,hDe⟩:∃D:List Nat,D=ps.filterMap fun i=>(Va cs i).dst:=⟨_,rfl⟩
 have hDZ:∀d,d∈D ↔ ∃i∈ps,(Va cs i).dst=some d:=fun d=>by rw[hDe,List.mem_filterMap]
 have hself:∀i∈ps,∀d,(Va cs i).dst=some d->d∉(Va cs i).reads:=fun i y d W hmZ=>by
  grind
 obtain⟨f1Z,f2Z,f3Z,f4Z,f5Z,f6Z⟩:=TR (qs:=qs) (D:=D) (ps.map (Va cs)) Z stk hpre (by
  rw[List.pairwise_map];refine(List.Pairwise.and_mem.1 hsort).imp ?_
  grind) (fun o hoZ=>by
  obtain⟨i,y,rfl⟩:=Ik.1 hoZ;exact⟨(A i y).2.1,(A i y).2.2,hself i y⟩) (fun d=>by
  grind) hal
 have f7Z:∀i∈ps,∀d,(Va cs i).dst=some d->∀st2:St,(∀x∈(Va cs i).reads,look st2.sl x=look stk.sl x)->Ow stk st2 (Va cs i).op->∃s',stepG cf st2 (Va cs i)=some s'/\Di (st2.put d (look stk.sl d)) s':=
  fun i y=>f6Z _ (Ik.2 ⟨i,y,rfl⟩)
 have hdn:∀j,j<n->j∉ps->∀d,(Va cs j).dst=some d->d∉D:=fun j p hpZ d W hmZ=>by
  grind
 obtain⟨Inv,E⟩:∃Inv:Array Bool->Act->World->Prop,Inv=fun b a w=>∃(f:Nat)(H:List Nat)(s s1:St),Rl P S s1 a w/\Part (fun x=>∃i∈ps,¬b.getD i false=true/\(Va cs i).dst=some x) D s1 s/\TP (rp n anZ ps cs f H) s/\
  (∀j,j<n->j∉ps->(b.getD j false=true ↔ j∈H))/\((List.range n).filter fun j=>!ps.contains j&& !H.contains j).length<=f/\
  (∀i∈ps,¬b.getD i false=true->(∀x∈(Va cs i).reads,look s.sl x=look stk.sl x)/\Ow stk s (Va cs i).op)/\(∀i∈ps,∀d,(Va cs i).dst=some d->look s.sl d=look stk.sl d):=⟨_,rfl⟩
 have fin:∀(b:Array Bool)(a:Act)(w:World),(∀i,i<n->b.getD i false=true)->Inv b a w->Q .normal a w:=fun b a w F h=>by
  rw[E]at h;obtain⟨f,H,s,s1,U,u,h3Z,h4Z,h5Z,h6Z,h7Z⟩:=h;have N:Ov n anZ ps H=[]:=by
   unfold Ov;refine List.filter_eq_nil_iff.2 fun j p hcZ=>?_
   simp only[Vc,Bool.not_eq_true',List.contains_eq_mem,decide_eq_false_iff_not]at hcZ;have G:=mo.1 p;exact hcZ.2.1 ((h4Z j G hcZ.1).1 (F j G))
  have t:rp n anZ ps cs f H=.done:=by
   cases f with
   |zero=>rfl
   |succ f=>simp only[rp,N,Qq]
  rw[t]at h3Z;have v:∀x,¬∃i∈ps,¬b.getD i false=true/\(Va cs i).dst=some x:=fun x ⟨i,y,T,_⟩=>T (F i (A i y).1)
  refine hfin s a w h3Z (U.congr (fun x=>(u.sl x (v x)).symm) (fun L O=>(u.own fun i _=>v i).2 O) (fun q hqZ=>by rw[u.al];exact hqZ) u.bx.symm)
 have main:∀(fuel:Nat)(b:Array Bool)(a:Act)(w:World),b.size=n->((List.range n).filter fun i=>!b.getD i false).length<=fuel->
  (∀i,i<n->b.getD i false=true->∀j∈Hg ops i,b.getD j false=true)->Inv b a w->wpAnyIn (fw r) 0 P .any ops Q fuel b a w:=by
  intro fuel;have t:∀(b:Array Bool)(i j:Nat),i<b.size->((b.setIfInBounds i true).getD j false=true ↔ (b.getD j false=true\/j=i)):=fun b i j y=>by
   by_cases h:i=j
   ·subst h;simp[y]
   ·rw[getD_set_ne false h]
    exact⟨.inl,fun v=>v.resolve_right (yi h)⟩
  have rdy:∀(b:Array Bool)(i:Nat),b.size=n->(i∈Region.ready .any ops b ↔ i<n/\¬b.getD i false=true/\∀j∈Hg ops i,b.getD j false=true):=fun b i hzZ=>by
   rw[mem_ready];constructor
   ·rintro⟨U,o,hoZ,u⟩
    have y:=(xg.1 hoZ).1;refine⟨aa,?_,fun j p=>?_⟩
    ·rw[Im,Dw aa]at U⊢
     simp at U⊢;exact U
    ·unfold Hg at p
     rw[hoZ]at p;obtain⟨e,N,v⟩:=List.mem_filterMap.1 p;split at v
     ·rename_i G;cases v;exact u e (by simpa using N) G
     ·cases v
   ·rintro⟨y,U,u⟩
    refine⟨?_,ops[i],Dw aa,fun e N G=>u _ ?_⟩
    ·grind
    ·unfold Hg
     rw[Dw aa];exact List.mem_filterMap.2 ⟨e,by simpa using N,by rw[if_pos G]⟩
  have stuck:∀b:Array Bool,b.size=n->Region.ready .any ops b=[]->∀i,i<n->b.getD i false=true:=fun b hzZ hrd i=>by
   induction i using Nat.strongRecOn<;>grind
  induction fuel with
  |zero=>
   intro b a w hzZ hcZ _ Y;have F:∀i,i<n->b.getD i false=true:=fun i y=>by
    grind
   refine⟨?_,fin b a w F Y⟩;cases v:Region.ready .any ops b with
   |nil=>rfl
   |cons i r=>
    have:=(rdy b i hzZ).1 (by rw[v];simp);exact absurd (F i this.1) this.2.1
  |succ fuel ihZ=>
   intro b a w hzZ hcZ hcl Y;refine⟨fun h=>fin b a w (stuck b hzZ h) Y,fun i y=>?_⟩;obtain⟨G,hnl,hdir⟩:=(rdy b i hzZ).1 y;have hcl':∀i,b.getD i false=true->∀j∈Hg ops i,b.getD j false=true:=fun i'Z h=>by
    by_cases ea:i'Z<n
    ·exact hcl i'Z ea h
    ·rw[Im,Array.getElem?_eq_none aa]at h;cases h
   have hanc:∀x∈anZ.getD i [],b.getD x false=true:=by rw[<-han];exact fB hcl' aa hdir
   have hz2:(b.setIfInBounds i true).size=n:=by simp[hzZ]
   have hcnt:((List.range n).filter fun j=>!(b.setIfInBounds i true).getD j false).length<=fuel:=by
    have e1:((List.range n).filter fun j=>!(b.setIfInBounds i true).getD j false)=((List.range n).filter fun j=>!b.getD j false).filter (· !=i):=by
     rw[Gl];apply oo;intro j _;have:=t b i j aa;by_cases R:j=i
     ·subst R
      have U:(b.setIfInBounds j true).getD j false=true:=this.2 (.inr rfl);rw[U];simp
     ·rw[getD_set_ne false (yi R)];simp[R]
    have J:i∈(List.range n).filter fun i=>!b.getD i false:=Hc.2 ⟨mo.2 G,by simpa using hnl⟩
    rw[e1];have:=iI.2 (show∃x∈(List.range n).filter (fun j=>!b.getD j false),¬((x !=i)=true)from⟨i,J,da⟩);omega
   have hcl2:∀i'Z,i'Z<n->(b.setIfInBounds i true).getD i'Z false=true->∀j∈Hg ops i'Z,(b.setIfInBounds i true).getD j false=true:=fun i'Z hi' h j p=>by
    rw[t b i _ aa]at h⊢;rcases h with h|rfl
    ·exact .inl (hcl i'Z hi' h j p)
    ·exact .inl (hdir j p)
   rw[E]at Y;obtain⟨f,H,s,s1,U,u,h3Z,h4Z,h5Z,h6Z,h7Z⟩:=Y;obtain⟨o,hoZ,V⟩:=hco i (Va cs i) (B1 aa);have hND:∀x,(∃i∈ps,¬b.getD i false=true/\(Va cs i).dst=some x)->x∈D:=fun x ⟨j,p,_,e⟩=>(hDZ x).2 ⟨j,p,e⟩
   have hrN:∀x∈(Va cs i).reads,¬∃j∈ps,¬b.getD j false=true/\(Va cs j).dst=some x:=fun x B ⟨j,p,T,e⟩=>by
    rcases C i G x B j p with h|⟨_,h⟩
    ·exact h e
    ·exact T (hanc j h)
   by_cases v:i∈ps
   ·
    obtain⟨d,W⟩:=hdst i v;obtain⟨g1,g2Z⟩:=h6Z i v hnl;obtain⟨sxZ,hst,N⟩:=f7Z i v d W s1 (fun x B=>by rw[u.sl x (hrN x B)];exact g1 x B) ⟨fun hmZ=>by rw[u.bx];exact g2Z.1 hmZ,fun hm1 X=>by rw[u.bx,u.cells,u.al];exact g2Z.2 hm1 X⟩;refine Jw hoZ (Kz hcf hSZ V hst U fun a' w' hr''=>ihZ _ a' w' hz2 hcnt hcl2 ?_);have hr':Rl P S (s1.put d (look stk.sl d)) a' w':=hr''.congr (fun x=>(N.sl x).symm) N.ow N.al N.bx.symm;rw[E];have O:d∈D:=(hDZ d).2 ⟨i,v,W⟩;refine⟨f,H,s,_,hr',⟨fun x B=>?_,?_,?_,u.bx,u.no,fun x hxD B hmZ=>?_⟩,h3Z,fun j p hjp=>?_,h5Z,fun j p T=>?_,h7Z⟩
    ·by_cases e:d=x
     ·subst e
      simp only[St.put,oe,if_true];exact(h7Z i v d W).symm
     ·simp only[St.put,oe]
      rw[if_neg e];refine u.sl x fun⟨j,p,T,e2⟩=>B ⟨j,p,?_,e2⟩
      rw[t b i j aa];rintro(h|rfl)
      ·exact T h
      ·rw[W]at e2;cases e2;omega
    ·have:((s1.put d (look stk.sl d)).ow).filter (Hd D)=s1.ow.filter (Hd D):=by
      show(Ta d s1.ow).filter (Hd D)=_;unfold Ta;rw[Gl];apply oo;intro L _;cases L with
      |cell=>rfl
      |slot k=>
       simp only[Hd,Xd];by_cases e:k=d
       ·subst e;simp[O]
       ·simp[e]
     rw[this,u.ow]
    ·show Jb d s1.al=s.al
     rw[u.al];refine Aw.2 fun q hqZ=>?_
     obtain⟨k1Z,k2Z⟩:=u.no q hqZ;have e1:q.1≠d:=fun e=>k1Z (e▸O)
     have e2:Xd d q.2=false:=by
      cases hq2:q.2 with
      |cell=>rfl
      |slot k=>
       rw[hq2,bm]at k2Z;simp only[Xd,beq_eq_false_iff_ne,ne_eq];exact fun e=>k2Z (e▸O)
     simp[e1,e2]
    ·have X:.slot x∈Ta d s1.ow:=hmZ
     obtain⟨m1Z,m2Z⟩:=Hc.1 X;by_cases e:x=d
     ·subst e;simp[Xd]at m2Z
     ·refine u.un x hxD (fun⟨j,p,T,e2⟩=>B ⟨j,p,?_,e2⟩) m1Z
      rw[t b i j aa];rintro(h|rfl)
      ·exact T h
      ·rw[W]at e2;cases e2;omega
    ·rw[t b i j aa,h4Z j p hjp]
     exact⟨fun h=>h.resolve_right fun e=>hjp (e▸v),.inl⟩
    ·exact h6Z j p fun h=>T ((t b i j aa).2 (.inl h))
   ·
    have N:i∉H:=fun h=>hnl ((h4Z i G v).2 h)
    have hrdy:i∈Ov n anZ ps H:=by
     unfold Ov;refine Hc.2 ⟨mo.2 G,?_⟩;simp only[Vc,Bool.not_eq_true',List.contains_eq_mem,decide_eq_false_iff_not,Dj,Bool.or_eq_true,decide_eq_true_eq];refine⟨v,N,fun x B=>?_⟩;by_cases hxp:x∈ps
     ·exact .inl hxp
     ·grind
    have hfp:0<f:=by
     have:i∈(List.range n).filter fun j=>!ps.contains j&& !H.contains j:=Hc.2 ⟨mo.2 G,by simp[v,N]⟩
     have:=List.length_pos_of_mem this;omega
    obtain⟨f,rfl⟩:∃f',f=f'+1:=⟨f - 1,aa⟩;simp only[rp]at h3Z;rcases hmemT _ s _ h3Z i hrdy with⟨s',k1Z,k2Z⟩|hdie
    case inr=>exact Jw hoZ (hdies i s hdie s1 o a w _ (fun x B=>u.sl x (hrN x B)) (fun x B=>u.sl x fun⟨i'Z,hi',_,e⟩=>B i'Z hi' e) u.bx u.cells V U)
    have O:∀x,(Va cs i).dst=some x->x∉D:=fun x B=>hdn i G v x B
    obtain⟨s1',k3Z,k4Z⟩:=frame u hND O hrN (fun x B hxD=>by
     obtain⟨j,p,e⟩:=(hDZ x).1 hxD;rcases hali i G with h|h
     ·exact v h
     ·rw[B]at h;simp only[Dj,bne_iff_ne,ne_eq]at h;exact h j p e) k1Z
    refine Jw hoZ (Kz hcf hSZ V k3Z U fun a' w' hr'=>ihZ _ a' w' hz2 hcnt hcl2 ?_);rw[E];have hNe:(fun x=>∃j∈ps,¬(b.setIfInBounds i true).getD j false=true/\(Va cs j).dst=some x)=fun x=>∃j∈ps,¬b.getD j false=true/\(Va cs j).dst=some x:=by
     funext x;apply propext;constructor
     ·rintro⟨j,p,T,e⟩
      exact⟨j,p,fun h=>T ((t b i j aa).2 (.inl h)),e⟩
     ·grind
    refine⟨f,i::H,s',s1',hr',by rw[hNe];exact k4Z,k2Z,fun j p hjp=>?_,?_,fun j p T=>?_,fun j p d W=>?_⟩
    ·rw[t b i j aa,h4Z j p hjp,Wb]
     exact Or.comm
    ·have e1:((List.range n).filter fun j=>!ps.contains j&& !(i::H).contains j)=((List.range n).filter fun j=>!ps.contains j&& !H.contains j).filter (· !=i):=by
      rw[Gl];apply oo;intro j _;by_cases R:j=i
      ·subst R;simp
      ·simp[R]
     have hmem2:i∈(List.range n).filter fun j=>!ps.contains j&& !H.contains j:=Hc.2 ⟨mo.2 G,by simp[v,N]⟩
     rw[e1];have:=iI.2 (show∃x∈(List.range n).filter (fun j=>!ps.contains j&& !H.contains j),¬((x !=i)=true)from⟨i,hmem2,da⟩);omega
    ·have hl0:¬b.getD j false=true:=fun h=>T ((t b i j aa).2 (.inl h))
     obtain⟨g1,g2Z⟩:=h6Z j p hl0;refine⟨fun x B=>?_,fun hmZ=>?_,fun hm1 X=>?_⟩
     ·grind [fQ]
     ·obtain⟨z,hzZ⟩:=g2Z.1 hmZ
      obtain⟨z2Z,hz2⟩:=f0 (o:=Va cs i) (by
       grind) k1Z
      exact⟨z++z2Z,by rw[hz2,hzZ,sf]⟩
     ·obtain⟨z1Z,z2Z,z3⟩:=g2Z.2 hm1 X
      grind [ft,zdl]
    ·rw[fQ k1Z d fun e=>O d e ((hDZ d).2 ⟨j,p,W⟩)]
     exact h7Z j p d W
 rw[hnZ];refine main n _ a w da (Ob (Ew _ _) da) (fun i y h=>by simp[y]at h) ?_;have hnot:∀i,¬(Array.replicate n false).getD i false=true:=fun i h=>by
  by_cases p:i<n<;>simp[p]at h
 rw[E];refine⟨n,[],stk,Z,hr,⟨fun x B=>?_,f4Z.symm,by rw[f2Z,hal],f1Z.symm,(fun q hqZ=>by rw[f2Z]at hqZ;cases hqZ),fun x hxD B=>?_⟩,I,fun j _ _=>⟨fun h=>absurd h (hnot j),fun h=>by cases h⟩,Ob (Ew _ _) da,fun i y _=>⟨fun x B=>rfl,fun _=>⟨[],da⟩,fun _ _=>⟨rfl,rfl,fun q hqZ=>by rw[f2Z]at hqZ;cases hqZ⟩⟩,fun i y d W=>rfl⟩
 ·refine(f5Z x fun hmZ=>B ?_).symm
  obtain⟨i,y,e⟩:=(hDZ x).1 hmZ;exact⟨i,y,hnot i,e⟩
 ·grind
def rN{qs}(k:dc P Γ cf)(u:Good Γ S){ops}{ali}{cs}{ps live}{Q}{d stk F}(p:Zx qs ops cs ps=true)
 (n:∀(j:Nat)(c),cs[j]?=some c->∃o,ops[j]?=some o/\so P S.nt ops ali o c) (i:d.al=[]) (e:ye cf (ps.map (Va cs)) d=some stk) (b:yd cf live (rp ops.size (Nk ops) ps cs ops.size []) stk=some F) (hr:Rl P S d a w)
 (q:∀s a' w',s.uf live=F->Rl P S s a' w'->Q .normal a' w'):wpAnyIn (fw r) 0 P .any ops Q ops.size (Array.replicate ops.size false) a w:=
 qN k u p n i e (TP:=fun t s=>yd cf live t s=some F) (Dies:=fun _ _=>False) (fun g s l h j v=>.inl (TN l h j v)) (fun s a w h hr=>q s a w (by grind [yd]) hr) (fun _ _ h=>h.elim) b hr
end
def Fo(o:Oper):Option Nat:=match o.op with
 | .call {callee:=.builtin .append,args,.. }=>match args.toList with
   | .tmp t::_=>some t
   |_=>none
 |_=>none
def Fx(P:Program)(nt:Nat)(ops:Array Oper)(a:Bool):Option (List Qa×List Qa):=
 (ops.toList.mapM (Mh P nt ops (ops.toList.filterMap Fo))).bind fun cs=>
   if a then((List.range' 1 cs.length).find? fun k=>Yx ops ((List.zipWith pq ops.toList cs).take k++cs.drop k) k).map fun k=>((List.zipWith pq ops.toList cs).take k,cs.drop k)else some ([],cs)
def YG(qs:List FuncId)(ops:Array Oper)(cs:List Qa):List Nat:=
 let a:=Nk ops
 (List.range cs.length).foldl (fun ps i=>if ft qs (Va cs i).op&&((Va cs i).dst.isSome&&((Hg ops i).all (fun j=>ps.contains j)&&
   ((!Av (Va cs i).op||(List.range cs.length).all fun j=>!RA (Va cs j).op||(ps.contains j||(a.getD j []).contains i))&&((!Rz qs (Va cs i).op||(List.range cs.length).all fun j=>i==j||(!vA (Va cs j).op||(Rz qs (Va cs j).op||(a.getD j []).contains i)))&&
   ((List.range cs.length).all fun j=>i==j||((Va cs j).dst !=(Va cs i).dst&&(ps.contains j||((a.getD j []).contains i||(Va cs i).reads.all fun s=>(Va cs j).dst !=some s))))))))then ps++[i]else ps) []
def ZF(qs:List FuncId)(ops:Array Oper)(c:Qa):Qa:=match c.op with
 | .loadA y=>if(ops.toList.any fun o=>match o.op with
  | .call {callee:=.value (.func f),.. }=>qs.contains (f+hb)
  |_=>false)=true then{c with op:=.loadM y}else c
 |_=>c
theorem aG{P}{nt}{qs}{ops}{ali}{o}{c}(h:Mh P nt ops ali o=some c):so P nt ops ali o (ZF qs ops c):=by
 unfold ZF;split
 ·rename_i y e
  split
  ·right;left
   refine⟨y,rfl,?_⟩;obtain⟨dst,g,op⟩:=c
   grind
  ·exact .inl h
 ·exact .inl h
def So(P:Program)(qs:List FuncId)(nt:Nat)(ops:Array Oper):Option (List Qa×BT):=
 ((ops.toList.mapM (Mh P nt ops (ops.toList.filterMap Fo))).map fun cs=>cs.map (ZF qs ops)).bind fun cs=>
   if Zx qs ops cs (YG qs ops cs)then some ((YG qs ops cs).map (Va cs),rp ops.size (Nk ops) (YG qs ops cs) cs ops.size [])else none
def G1(qs:List FuncId)(ops:Array Oper):Bool:=ops.toList.any fun o=>match o.op with
 | .call {callee:=.value (.func f),.. }=>qs.contains f||qs.contains (f+hb)
 |_=>false
def xC(P:Program)(qs:List FuncId)(nt:Nat)(ops:Array Oper)(a:Bool)(l:List Nat):Option oa:=
 if(a&&G1 qs ops)=true then(So P qs nt ops).map fun q=>.dg l q.1 q.2 else match Fx P nt ops a with
  |some q=>some (.Ld l q.1 q.2)
  |none=>if a then(So P qs nt ops).map fun q=>.dg l q.1 q.2 else none
def zt:oa:=.cond (.c .hd) .skip .skip
theorem cp{cf}{n}{st}{r}(h:pa cf n zt st=some r):False:=by
 grind [zt,pa,X.ev]
def Td(P:Program)(qs:List FuncId)(f nt:Nat):Nat->List (List Nat)->Code->Option (oa×List (List Nat))
 |_,lv,.skip=>some (.skip,lv)
 |_,l::lv,.region _ ops d=>match xC P qs nt ops d l with
  |some c=>some (c,lv)
  |none=>some (zt,lv)
 |k,lv,.seq a b=>(Td P qs f nt k lv a).bind fun q=>(Td P qs f nt (k+(Lb a).length) q.2 b).map fun r=>(.seq q.1 r.1,r.2)
 |k,lv,.cond c a b=>(zb c).bind fun x=>(Td P qs f nt k lv a).bind fun q=>(Td P qs f nt (k+(Lb a).length) q.2 b).map fun r=>(.cond x q.1 r.1,r.2)
 |k,lv,.block id b=>(Td P qs f nt k lv b).map fun q=>(.block id q.1,q.2)
 |k,lv,.scope b=>Td P qs f nt k lv b
 |_,lv,.label _=>some (.skip,lv)
 |k,l::lv,.loop b=>(Td P qs f nt k lv b).map fun q=>(.loop l q.1,q.2)
 |k,l::lv,.rangeFunc g _ _ _=>(zb g).map fun x=>(.range f k l x,lv)
 |_,l::lv,.exit id=>some (.exit id l,lv)
 |_,l::lv,.ret=>some (.ret l,lv)
 |_,lv,_=>some (zt,lv)
def yC(P:Program)(qs:List FuncId)(f nt k:Nat)(lv:List (List Nat))(q:Operand×Array Tmp×Code×Code):Option (List Nat×oa×oa):=
 if q.2.1.toList.all (·<nt)then(Td P qs f nt (k+1) lv q.2.2.1).bind fun c=>(Td P qs f nt (k+1+(Lb q.2.2.1).length) c.2 q.2.2.2).map fun d=>(q.2.1.toList,c.1,d.1)else none
def Du(P:Program)(qs:List FuncId)(f nt:Nat):Nat->List (List (List Nat))->List (Operand×Array Tmp×Code×Code)->Option (List (List Nat×oa×oa))
 |_,_,[]=>some []
 |k,lv::Nq,q::r=>(yC P qs f nt k lv q).bind fun c=>(Du P qs f nt (k+1) Nq r).map (c::·)
 |_,[],_::_=>none
def cm(P:Program):ResultVar->Option (Sum Nat (Nat×Bool×Nat))
 | .tmp t=>some (.inl t)
 | .cell t ty=>(Ae P ty).bind fun g=>(ug P ty).bind fun n=>if g=true\/n=1 then some (.inr (t,g,n))else none
structure Lv where
 main:List (List Nat)
 Qi:List (List (List Nat))
 qs:List FuncId
def Uj(P:Program)(lv:Lv)(f:FuncId):Option Ba:=match P.funcs[f]? with
 |some fn=>match fn.body with
  |some b=>if fn.name != "runtime.NumGoroutine" then(Td P lv.qs f fn.ntmps 0 lv.main b).bind fun q=>(Du P lv.qs f fn.ntmps 0 lv.Qi (Lb b)).bind fun rg=>(fn.results.toList.mapM (cm P)).map fun rs=>⟨fn.ntmps,rs,q.1,rg⟩else none
  |none=>none
 |none=>none
theorem wM{P}{qs}{f nt}:∀{l}{k}{Nq}{r},Du P qs f nt k Nq l=some r->∀(j)(c),r[j]?=some c->∃q lv,l[j]?=some q/\yC P qs f nt (k+j) lv q=some c
 |[],k,Nq,r,h,j,c,a=>by grind [Du]
 |q::l,k,[],r,h,j,c,a=>by grind [Du]
 |q::l,k,lv::Nq,r,h,j,c,a=>by
  obtain⟨e,g,h⟩:=qb h;obtain⟨r',b,rfl⟩:=qm h;cases j with
  |zero=>grind
  |succ j=>
   obtain⟨o,d,i,n⟩:=wM b j c ia
   grind
def Out.ex:Out->Exit
 | .normal=>.normal
 | .exit id=>.exit id
 | .ret=>.ret
section
variable {P:Program} {qs:List FuncId} {w w':World} {r:Option Nat} {Fr Fr':Nat→Nat} {β β':List Nat} {T:List Deferred} {base nt:Nat} {M:Nat→Prop} {w0:World} {F0:Nat→Nat} {st st':St} {a a':Act} {cf:Callee} {Γ:Ze} {S:S0}
mutual
theorem kz{nb:Nat}:∀(p:PV)(v:Value),p.low nb=true->Rd w Fr β p v->Rd w Fr (β.take nb) p v
 | .hd,_,_,_=>by simp[Rd]
 | .flat u,v,_,k=>by grind [Rd]
 | .ha n cs,v,h,k=>by
   obtain⟨b,d,a,e,i⟩:=k;refine⟨b,d,a,e,i.imp id ?_⟩;rintro⟨g,o,vs,j,hr,hs,c⟩;exact⟨g,o,vs,j,hr,Mq cs vs h hs,c⟩
 | .agg cs,v,h,k=>by
   obtain⟨vs,a,hs,c⟩:=k;exact⟨vs,a,Mq cs vs h hs,c⟩
 | .Mb cs,v,h,k=>by
   obtain⟨vs,a,hs⟩:=k;exact⟨vs,a,Mq cs vs h hs⟩
 | .ptr b o,v,h,k=>by
   grind [Rd,PV.low]
 | .xd cs,v,h,k=>by
   obtain⟨g,o,vs,a,hr,hs,c⟩:=k;exact⟨g,o,vs,a,hr,Mq cs vs h hs,c⟩
 | .fb f cs,v,h,k=>by
   obtain⟨vs,a,hs⟩:=k;exact⟨vs,a,Mq cs vs h hs⟩
 | .Ma b,v,h,k=>by
   grind [Rd,PV.low]
 | .se b d n,v,h,k=>by
   grind [Rd,PV.low]
 | .lp _ _ _ _ _,v,h,k=>by grind [Rd]
theorem Mq{nb:Nat}:∀(ps:List PV)(vs:List Value),La nb ps=true->sa w Fr β ps vs->sa w Fr (β.take nb) ps vs
 |[],vs,_,k=>by grind [sa]
 |p::ps,vs,h,k=>by
  simp only[La,Vc]at h;obtain⟨v,r,a,e,i⟩:=k;exact⟨v,r,a,kz p v h.1 e,Mq ps r h.2 i⟩
end
theorem nQ{nb}:∀(live:List Nat)(a)(i),La nb a=true->(look (live.zip a) i).low nb=true
 |[],_,i,_=>by rfl
 |_::_,[],i,_=>by rfl
 |j::live,p::a,i,h=>by
  simp only[La,Vc]at h;rw[List.zip_cons_cons,oe];split
  ·exact h.1
  ·exact nQ live a i h.2
theorem Oj.low{nb}{cs}{g}(h:Oj P w Fr β cs g)(o:La nb cs.2=true):Oj P w Fr (β.take nb) cs g:=by
 rcases h with⟨vs,e,b,c,d⟩|⟨f,k,s,live,a,j,r,b,c,d,l,n⟩
 ·exact .inl ⟨vs,e,b,Mq cs.2 vs o c,d⟩
 ·refine .inr ⟨f,k,s,live,a,j,r,b,c,d,l,fun i=>kz _ _ (nQ live a i ?_) (n i)⟩
  grind [La,PV.low]
theorem Rel.cut(R:Rel P T base M w0 F0 nt st a w Fr β){nb}(x:∀i,look st'.sl i=.hd\/(look st'.sl i=look st.sl i/\(look st.sl i).low nb=true))(n:st'.bx=st.bx.take nb)(o:∀cs∈st.bx.take nb,La nb cs.2=true)
 (k:∀L∈st'.ow,L∈st.ow/\(∀i,L=.slot i->look st'.sl i=look st.sl i)/\(∀b j,L=.cell b j->b<nb)) (E:st'.al=[]):Rel P T base M w0 F0 nt st' a w Fr (β.take nb):=by
 have d:∀L∈st'.ow,∀v,Ga a w (β.take nb) L=some v->Ga a w β L=some v:=fun L e v h=>by
  cases L<;>grind [Ga]
 have A:∀L∈st'.ow,∀v,Ga a w β L=some v->Ga a w (β.take nb) L=some v:=fun L e v h=>by
  cases L<;>grind [Ga]
 have I:∀L∈st'.ow,∀p,ab st L=some p->ab st' L=some p:=fun L e p h=>by
  cases L<;>grind [ab]
 refine⟨fun i=>?_,R.nt,R.df,⟨by rw[n,Ac,Ac,R.bx.1],fun b cs c=>?_⟩,R.nd.sublist (List.take_sublist _ _),fun L e=>?_,fun L e r l ra v C g y z=>R.sep L (k L e).1 r (k r l).1 ra v C g (d L e v y) (d r l C z),fun L e v g y u H=>R.out L (k L e).1 v g (d L e v y) u (zw H),(fun q J=>by grind),fun g u=>?_,R.old,R.ge,R.os,R.tape,R.output⟩
 ·rcases x i with h|⟨B,t⟩
  ·grind [Rd]
  ·rw[B];exact kz _ _ t (R.sl i)
 ·rw[n]at c
  have F:b<nb:=by
   have:=(qg c).1;rw[Ac]at this;omega
  have G:=o cs (Ah c);rw[Lt F]at c;obtain⟨g,B,t,D⟩:=R.bx.2 b cs c;exact⟨g,ia,t,D.low G⟩
 ·obtain⟨v,p,D,F,G⟩:=R.own L (k L e).1
  grind
 ·refine R.may g (u.imp zw ?_)
  grind
def Rel.dm(R:Rel P T base M w0 F0 nt st a w Fr β)(j:∀i,look st'.sl i=.hd\/look st'.sl i=look st.sl i)(n:st'.bx=st.bx)(b:∀L∈st'.ow,L∈st.ow/\∀i,L=.slot i->look st'.sl i=look st.sl i)(l:st'.al=[]):Rel P T base M w0 F0 nt st' a w Fr β:=by
 have e:∀L∈st'.ow,ab st' L=ab st L:=fun L c=>by
  cases L<;>grind [ab]
 exact⟨fun i=>by
  rcases j i with h|h
  ·grind [Rd]
  ·rw[h];exact R.sl i,R.nt,R.df,by grind [bx],R.nd,fun L c=>by rw[e L c];exact R.own L (b L c).1,fun L c k d=>R.sep L (b L c).1 k (b k d).1,fun L c=>R.out L (b L c).1,(fun q t=>by grind),
  fun g o=>R.may g (o.imp id fun⟨L,p,r⟩=>⟨L,(b L p).1,r⟩),R.old,R.ge,R.os,R.tape,R.output⟩
theorem wv(sl):∀(l:List Nat)(i),look (l.map fun j=>(j,look sl j)) i=if i∈l then look sl i else .hd
 |[],i=>rfl
 |j::l,i=>by
  rw[kc,oe,wv sl l i]
  grind
def HF{S:S0}(h:Le S.sw S.sF S.sβ w Fr β):S.sβ.length<=β.length:=by
 rcases ai β.length S.sβ.length with a|a
 ·have:=h.box β.length _ (qe a)
  grind
 omega
theorem Rl.Wq(h:Rl P S st a w)(live){nb}(p:S.sβ.length<=nb):Rl P S (st.Wq live nb) a w:=by
 obtain⟨Fr,β,R,d⟩:=h;have v:∀i,look (st.Wq live nb).sl i=if i∈live then look st.sl i else .hd:=fun i=>wv st.sl live i
 have c:∀L,L∈(st.Wq live nb).ow->L∈st.ow/\(∀i,L=.slot i->i∈live)/\∀b j,L=.cell b j->b<(trim nb (live.map (look st.sl)) st.bx).length:=fun L k=>by
  grind [St.Wq]
 by_cases n:(trim nb (live.map (look st.sl)) st.bx)=st.bx
 ·refine⟨Fr,β,R.dm (fun i=>?_) n (fun L k=>⟨(c L k).1,fun i e=>?_⟩) rfl,d⟩
  ·grind
  grind
 ·have u:La nb (live.map (look st.sl))=true/\(st.bx.take nb).all (fun q=>La nb q.2)=true/\trim nb (live.map (look st.sl)) st.bx=st.bx.take nb:=by
   unfold trim at n⊢;split at n
   ·grind
   ·grind
  obtain⟨A,x,y⟩:=u;have r:∀(l:List Nat),La nb (l.map (look st.sl))=true->∀i∈l,(look st.sl i).low nb=true:=by
   intro l
   induction l with
   |nil=>simp
   |cons j l z=>
    grind [La]
  refine⟨Fr,β.take nb,R.cut (nb:=nb) (fun i=>?_) y (fun cs o=>Dj.1 x cs o) (fun L k=>⟨(c L k).1,fun i e=>?_,fun b j e=>?_⟩) rfl,⟨d.size,d.fr,d.cell,fun i g t=>?_,d.lp⟩⟩
  ·grind
  ·grind
  ·grind
  ·have:i<nb:=Qf (qg t).1 p
   rw[Lt this];exact d.box i g t
theorem Rl.only(h:Rl P S st a w)(live){nb}(b:S.sβ.length<=nb):Rl P S (st.only live nb) a w:=(h.pj live).Wq live b
theorem pp{α γ:Type}{f}:∀{l:List α}{r},l.mapM f=some r->r.length=l.length/\∀(j:Nat)(c:γ),r[j]?=some c->∃o,l[j]?=some o/\f o=some c
 |[],r,h=>by grind
 |x::l,r,h=>by
  rw[Cp]at h;obtain⟨y,d,h⟩:=qb h;obtain⟨s,hs,h⟩:=qb h;cases h;obtain⟨a,b⟩:=pp hs
  grind
theorem y_(J:P.follows .mixedOrders=true)(e:dc P Γ cf)(A:Good Γ S){id}{ops}{b}{q}(d:Fx P S.nt ops b=some q){stk stF}(z:Xf cf q.1 st=some stk)(D:vc cf q.2 stk=some stF)
 (v:st.al=[]) (hr:Rl P S st a w) {Q} (E:∀a' w',Rl P S stF a' w'->Q .normal a' w'):(Code.region id ops b).wpIn (fw r) 0 P Q a w:=by
 obtain⟨cs,x,d⟩:=qb d;obtain⟨C,B⟩:=pp x;have g:∀(j:Nat)(c:Qa),cs[j]?=some c->∃o,ops[j]?=some o/\Mh P S.nt ops (ops.toList.filterMap Fo) o=some c:=fun j c i=>by
  grind
 cases b with
 |false=>
  simp only[Fa,if_false,Xb]at d;subst d;simp only[Xf,Xb]at z;subst z;refine wpIn_region ?_;have:=US (r:=r) (rest:=[]) e A (Q:=Q) cs 0 st a w (fun j c i=>by rw[sc];exact g j c i) D hr (fun a' w' n=>by grind [wpOpsIn])
  grind [List.range_eq_range']
 |true=>
  obtain⟨k,G,rfl⟩:=qm d;have l:=List.find?_some G;have p:(List.zipWith pq ops.toList cs).length=cs.length:=by rw[List.length_zipWith];omega
  have H:k<=cs.length:=by
   have u:=l;unfold Yx at u;simp only[Vc,decide_eq_true_eq]at u;have t:=u.1.1.1.1.1;rw[Ja,Ac,Ya,p]at t;omega
  have y:((List.zipWith pq ops.toList cs).take k).length=k:=by rw[Ac,p];omega
  have h:∀(j:Nat)(c:Qa),((List.zipWith pq ops.toList cs).take k++cs.drop k)[j]?=some c->∃o,ops[j]?=some o/\so P S.nt ops (ops.toList.filterMap Fo) o c:=fun j c i=>by
   by_cases t:j<k
   ·grind [rY]
   ·rw[He aa,y,Fj,show k+(j - k)=j by omega]at i
    obtain⟨o,u,F⟩:=g j c i;exact⟨o,u,.inl F⟩
  refine wpIn_region_any J ?_;have n:Rl P S st a {w with drawn:=w.drawn+1}:=by
   obtain⟨Fr,β,R,I⟩:=hr;have F:Below w.heap.size w {w with drawn:=w.drawn+1}:=⟨rfl,rfl,rfl,la _,fun _ _=>rfl⟩;obtain⟨u,t⟩:=R.grow F (Fr':=Fr) (fun _ _=>rfl);exact⟨Fr,β,u,I.trans t⟩
  refine bZ e A l ia h v (stk:=stk) (stF:=stF) ?_ ?_ n E
  ·grind
  grind
def v_(B:P.follows .mixedOrders=true)(g:dc P Γ cf)(y:Good Γ S){id}{ops}{qs}{q}(b:So P qs S.nt ops=some q){live}{stk F}(u:ye cf q.1 st=some stk)(v:yd cf live q.2 stk=some F)
 (e:st.al=[]) (hr:Rl P S st a w) {Q} (x:∀s a' w',s.uf live=F->Rl P S s a' w'->Q .normal a' w'):(Code.region id ops true).wpIn (fw r) 0 P Q a w:=by
 obtain⟨cs,d,b⟩:=qb b;obtain⟨t,h,rfl⟩:=qm d;obtain⟨o,n⟩:=pp h;split at b
 case isFalse=>cases b
 rename_i k;cases b;refine wpIn_region_any B ?_;have l:Rl P S st a {w with drawn:=w.drawn+1}:=by
  obtain⟨Fr,β,R,A⟩:=hr;have z:Below w.heap.size w {w with drawn:=w.drawn+1}:=⟨rfl,rfl,rfl,la _,fun _ _=>rfl⟩;obtain⟨p,i⟩:=R.grow z (Fr':=Fr) (fun _ _=>rfl);exact⟨Fr,β,p,A.trans i⟩
 exact rN g y (ali:=ops.toList.filterMap Fo) k (fun j c C=>by
  grind [aG]) e u v l x
theorem fD{live}:∀(t)(s F),yd cf live t s=some F->F.al=[]
 | .done,s,F,h=>by simp only[yd,Xb]at h;subst h;rfl
 | .one o t,s,F,h=>by
   obtain⟨s',_,a⟩:=qb h;exact fD t s' F a
 | .two o t r,s,F,h=>by
   exact fD r s F (iA h).2
theorem ON{body}{live}{nb}(c:∀st o st',body st=some (o,st')->st.al=[]->st'.al=[]):∀(n)(st)(o)(st'),Fc body live nb n st=some (o,st')->st.al=[]->st'.al=[]
 |0,_,_,_,h,_=>by cases h
 |n+1,st,o,st',h,b=>by
  obtain⟨⟨d,s1⟩,e,a⟩:=qb h;cases d with
  |normal=>exact ON c n _ o st' a rfl
  |exit id=>grind
  |ret=>grind
theorem SZ{f k}{live}{g}{o}(h:Zj cf f k live g st=some (o,st'))(a:st.al=[]):st'.al=[]:=by
 unfold Zj at h
 grind [Option.bind_eq_some_iff,Dc]
theorem hm{n}:∀(c)(st)(o)(st'),pa cf n c st=some (o,st')->st.al=[]->st'.al=[]
 | .skip,st,o,st',h,d=>by cases h;exact d
 | .Ld live pre j,st,o,st',h,d=>by
   obtain⟨s,_,h⟩:=qm h;cases h;rfl
 | .dg live pre t,st,o,st',h,d=>by
   grind [pa,Option.map_eq_some_iff,Option.bind_eq_some_iff,fD]
 | .seq a b,st,o,st',h,d=>by
   obtain⟨⟨i,s1⟩,l,e⟩:=qb h;have p:=hm a st i s1 l d;cases i with
   |normal=>exact hm b s1 o st' e p
   |exit id=>grind
   |ret=>grind
 | .cond x a b,st,o,st',h,d=>by
   simp only[pa]at h;split at h
   ·split at h
    ·exact hm a st o st' h d
    ·exact hm b st o st' h d
   grind
 | .block id b,st,o,st',h,d=>by
   obtain⟨⟨i,s1⟩,l,e⟩:=qm h;have p:=hm b st i s1 l d;cases i with
   |normal=>cases e;rfl
   |exit j=>
    dsimp only at e;split at e
    ·cases e;rfl
    grind
   |ret=>grind
 | .loop live b,st,o,st',h,_=>by
   exact ON (fun st o st' h d=>hm b st o st' h d) n _ o st' h rfl
 | .range f k live g,st,o,st',h,d=>by
   grind [pa,SZ]
 | .exit id live,st,o,st',h,d=>by cases h;rfl
 | .ret live,st,o,st',h,d=>by cases h;rfl
theorem Rl.Hq(h:Rl P S st a w)(live):Rl P S (st.Hq live) a w:=by
 obtain⟨Fr,β,R,g⟩:=h;have k:∀i,look (st.Hq live).sl i=if i∈live then look st.sl i else .hd:=fun i=>wv st.sl live i
 refine⟨Fr,β,R.dm (fun i=>?_) rfl (fun L d=>?_) rfl,g⟩
 ·grind
 ·simp only[St.Hq,wg,Ik,Hc,decide_eq_true_eq]at d
  rcases d with⟨j,⟨b,c⟩,rfl⟩|⟨b,c⟩
  ·grind
  ·exact⟨b,fun i e=>by subst e;cases c⟩
theorem Rl.uf(h:Rl P S st a w)(live):Rl P S (st.uf live) a w:=(h.pj live).Hq live
theorem pQ{nb}:∀(sl)(i),La nb (sl.map (·.2))=true->(look sl i).low nb=true
 |[],i,_=>by rfl
 |(j,p)::r,i,h=>by
  simp only[kc,La,Vc]at h;rw[oe];split
  ·exact h.1
  ·exact pQ r i h.2
theorem Rl.fi(h:Rl P S st a w){nb}(o:S.sβ.length<=nb):Rl P S (st.fi nb) a w:=by
 obtain⟨Fr,β,R,d⟩:=h;by_cases k:(trim nb (st.sl.map (·.2)) st.bx)=st.bx
 ·refine⟨Fr,β,R.dm (fun i=>.inr rfl) k (fun L l=>?_) rfl,d⟩
  grind [St.fi]
 ·have r:La nb (st.sl.map (·.2))=true/\(st.bx.take nb).all (fun q=>La nb q.2)=true/\trim nb (st.sl.map (·.2)) st.bx=st.bx.take nb:=by
   unfold trim at k⊢;split at k
   ·grind
   ·grind
  obtain⟨t,u,v⟩:=r;have ra:(st.bx.take nb).length≠st.bx.length:=fun e=>k (by
   grind [List.take_of_length_le])
  have c:∀L,L∈(st.fi nb).ow->L∈st.ow/\∀b j,L=.cell b j->b<nb:=fun L l=>by
   grind [St.fi]
  refine⟨Fr,β.take nb,R.cut (nb:=nb) (fun i=>.inr ⟨rfl,pQ _ i t⟩) v (fun cs n=>Dj.1 u cs n) (fun L l=>⟨(c L l).1,fun i _=>rfl,(c L l).2⟩) rfl,⟨d.size,d.fr,d.cell,fun i g p=>?_,d.lp⟩⟩;have:i<nb:=Qf (qg p).1 o;rw[Lt this];exact d.box i g p
theorem FN{fr}{tmps}{ps}{az b}(c:∀l,r=some l->∃rec,w.heap[l]?=some (Obj.loop rec)):
 ∃l mk a df,(Instr.enterLoop fr tmps ps az b r).run P w=.ok (l,mk) a/\Below w.heap.size w a/\w.heap.size<=l/\a.heap[l]?=some (.loop {state:=.ready,pending:=none,fn:=fr,tmps,params:=ps,assign:=az,body:=b,defers:=df})/\
  (mk=[]\/∃D,mk=[mark D]/\w.heap.size<=D/\a.heap[D]?=some (.deferred (some []))):=by
 cases r with
 |none=>
  refine⟨_,_,_,w.heap.size,run_enterLoop_outer fr tmps ps az b,(ru w _).alloc da _,aa,?_,.inr ⟨w.heap.size,rfl,la _,?_⟩⟩
  ·grind [World.alloc_heap_new,World.size_alloc]
  grind [Below,ru,World.alloc_heap_new]
 |some g=>
  obtain⟨d,e⟩:=c g rfl;refine⟨w.heap.size,[],w.alloc (.loop {state:=.ready,pending:=none,fn:=fr,tmps,params:=ps,assign:=az,body:=b,defers:=d.defers}),d.defers,?_,ru w _,la _,World.alloc_heap_new w _,.inl rfl⟩;unfold Instr.enterLoop;simp only[Qb,run_newObj_alloc,Result.andThen,Bh,run_getLoop e]
theorem e_(hcf:dc P Γ cf)(hSZ:Good Γ S){f k}{live}{g}{ps}{az b}{y}(hyZ:zb g=some y)(Z:rangeAt P f k=some (g,ps,az,b))(hfn:∃fn,P.funcs[f]?=some fn/\S.nt=fn.ntmps)
 (hrd:∀l,r=some l->∃rec,S.sw.heap[l]?=some (Obj.loop rec)) {o} (x:Zj cf f k live (y.ev st.sl) st=some (o,st')) (hr:Rl P S st a w) {Q} (hKZ:∀a' w',Rl P S st' a' w'->Q o.ex a' w'):(Code.rangeFunc g ps az b).wpIn (fw r) 0 P Q a w:=by
 obtain⟨Fr,β,R,hlZ⟩:=hr;unfold Zj at x;split at x
 case h_2=>cases x
 rename_i h Oa e1;split at x
 ·cases x
 rename_i ra;obtain⟨s2Z,Y,p⟩:=qb x;have hxZ:=Ub R.sl hyZ;rw[e1]at hxZ;obtain⟨A,hxv,hcr⟩:=hxZ;refine wpIn_rangeFunc fun fr _=>?_
 obtain⟨l,mk,H,df,k1Z,hbZ,k2Z,k3Z,k4Z⟩:=FN (P:=P) (w:=w) (fr:=fr) (tmps:=a.tmps) (ps:=ps) (az:=az) (b:=b) (r:=r) fun l0Z e=>by
  obtain⟨rec,q⟩:=hrd l0Z e;exact hlZ.lp _ _ q
 obtain⟨R1Z,u⟩:=R.Sw (Fr':=Zd Fr l 0) (l:=l) (cs:=(0,[.lp f k .ready live (live.map (look st.sl))])) hbZ (fun g h=>Bp (Qf h k2Z)) k2Z (by simp[Zd]) fun u=>.inr ⟨f,k,.ready,live,_,rfl,_,k3Z,by
  obtain⟨fn,W,q2Z⟩:=hfn;exact⟨fn,W,by rw[<-q2Z];exact R.nt⟩,⟨g,Z⟩,⟨rfl,rfl⟩,fun i=>by
  have:look (live.zip (live.map (look st.sl))) i=if i∈live then look st.sl i else .hd:=by
   rw[<-wv st.sl live i];congr 1;rw[List.zip_map_right];clear Y p x hKZ
   induction live with
   |nil=>rfl
   |cons j l n=>grind
  rw[this];split
  ·exact(R.sl i).mono u
  ·simp[Rd]⟩
 have hbl:st.bx.length=β.length:=R.bx.1;have M:Rel P S.T S.base S.M S.w0 S.F0 S.nt {st with bx:=st.bx++[(0,[.lp f k .ready live (live.map (look st.sl))])]} {a with defers:=mk++a.defers} H (Zd Fr l 0) (β++[l]):=by
  rcases k4Z with rfl|⟨D,rfl,t,v⟩
  ·exact R1Z
  ·refine R1Z.TI (Ob R.ge t) v fun n e J=>?_
   obtain⟨z,C,G,I⟩:=R.df
   grind [nz]
 have O:(β++[l])[st.bx.length]?=some l:=by rw[hbl,He (la _)];simp
 have B:sa H (Zd Fr l 0) (β++[l]) (.Ma st.bx.length::Oa) (.func (.yield l) #[] #[]::A):=by
  simp only[sa];exact⟨_,_,rfl,by simp only[Rd];grind,sa.mono u _ _ hcr⟩
 have F:=yx hcf (S:={S with sw:=H,sF:=Zd Fr l 0,sβ:=β++[l]}) Y (fun d h=>by cases h) M (Le.refl _ _ _) B (hSZ.at M) hSZ.Nh (K:=fun a' w'=>Rl P {S with sw:=H,sF:=Zd Fr l 0,sβ:=β++[l]} s2Z a' w') (fun a' w' h=>h);unfold Enters at F;rw[if_neg ra]at F;obtain⟨hent,E⟩:=F;refine⟨l,mk,H,{target:=.fn (.func h) A.toArray,args:=#[.func (.yield l) #[] #[]]},H,h,(.func (.yield l) #[] #[]::A).toArray,H,k1Z,?_,fun _ _=>trivial,?_,(fun h=>by cases h),?_⟩
 ·grind [resolve,Deferred.ofValue,Sem.run_pure,Act.eval]
 ·grind [bs,invoke]
 ·refine py.2 (E.mono fun e w3Z hqZ=>?_)
  obtain⟨v,rfl,L,I,R3Z,T⟩:=hqZ;have N:I[st.bx.length]?=some l:=T.box _ _ O;split at p
  case h_2=>cases p
  rename_i e0Z f' k' s live' snap' U;obtain⟨g3,b1Z,b2Z,b3Z⟩:=R3Z.bx.2 _ _ U;rw[N]at b1Z;cases b1Z;have q:zr P w3Z L I f' k' s live' snap' l:=by
   rcases b3Z with⟨vs,e,_,p,_⟩|⟨_,_,_,_,_,x,Y⟩
   ·obtain⟨_,_,_,p,_⟩:=p;simp only[Rd]at p
   ·grind
  obtain⟨X,W,q2Z,q3Z,J,q5Z⟩:=q;have fin:X.state≠.busy->∀V:Out,(V=o/\{s2Z with bx:=s2Z.bx.set st.bx.length (0,[.lp f' k' .over live' snap'])}=st')->(V=.normal/\X.pending=none\/∃j:Mw,X.pending=some j.code/\V=(match j with| .exit i=>.exit i| .ret=>.ret))->∃z t,(Instr.endLoop l).run P w3Z=.ok z t/\(match z with
   |none=>Q .normal {a with defers:=mk++a.defers} t
   |some c=>c.wpIn (fw r) 0 P Q {a with defers:=mk++a.defers} t):=fun C V hoZ hjZ=>by
   obtain⟨rfl,rfl⟩:=hoZ;obtain⟨R4Z,G⟩:=R3Z.uH (r':={X with state:=.exhausted}) (f':=f') (k':=k') (s':=.over) (live':=live') (snap':=snap') U N fun G=>⟨_,World.putObj_heap_same (xg.1 W).1,q2Z,q3Z,trivial,fun i=>(q5Z i).mono G⟩
   have n:=hKZ _ _ ⟨L,I,R4Z,(hlZ.trans u).trans (T.trans G)⟩;refine⟨_,_,run_endLoop W C,?_⟩;rcases hjZ with⟨rfl,hpZ⟩|⟨j,hpZ,rfl⟩
   ·rw[hpZ]at n⊢;exact n
   ·rw[hpZ]at n⊢
    cases j with
    |exit i=>exact wpIn_exit n
    |ret=>exact wpIn_ret n
  split at p
  ·cases p
   exact fin (by rw[J.1];simp) .normal ⟨rfl,rfl⟩ (.inl ⟨rfl,J.2⟩)
  ·rename_i i
   cases p;exact fin (by rw[J.1];simp) (.exit i) ⟨rfl,rfl⟩ (.inr ⟨.exit i,J.2,rfl⟩)
  ·cases p
   exact fin (by rw[J.1];simp) .ret ⟨rfl,rfl⟩ (.inr ⟨.ret,J.2,rfl⟩)
  ·cases p
def qU{F}{n}{P}{a}{w}{Q}{c}(h:c.wpIn F n P (fun e a w=>Q e a w/\∀l,e≠.goto l) a w):(Code.scope c).wpIn F n P Q a w:=by
 intro b k cs q j hr;have r:∀(a:Act)(w:World),step P (lone (b.atR a (.code (.scope c)::k)) cs w)=.next (lone (b.atR a (.code c::.inScope c::k)) cs w):=fun a w=>step_lone_go ja
 have t:∀(a:Act)(w:World),step P (lone (b.atR a (.inScope c::k)) cs w)=.next (lone (b.atR a k) cs w):=fun a w=>step_lone_go ja
 have u:(lone (b.atR a (.code (.scope c)::k)) cs w).fenced P F:=fenced_calm j hr rfl;obtain⟨e,g,i,⟨v,x⟩,d⟩:=h b (.inScope c::k) cs q j hr;refine⟨e,g,i,v,.of_steps (.one u (r a w)) ?_⟩;cases e with
 |normal=>exact StepsIn.trans d (.one (fenced_calm j hr rfl) (t _ _))
 |exit id=>exact⟨fun k' o=>d.1 k' (by simp[exitTo,o]),fun p o=>d.2 p (by simp[exitTo,o])⟩
 |goto o=>grind
 |ret=>exact d
 |panic o=>exact d
 |outgrown=>exact d
def Out.c0(o:Out)(l):o.ex≠.goto l:=by cases o<;>simp[Out.ex]
theorem Uo(hmZ:P.follows .mixedOrders=true)(M:dc P Γ cf)(hSZ:Good Γ S){n}{f}(hfn:∃fn,P.funcs[f]?=some fn/\S.nt=fn.ntmps)(hrd:∀l,r=some l->∃rec,S.sw.heap[l]?=some (Obj.loop rec)):
 ∀(code)(C)(lv)(c)(z),Td P qs f S.nt C lv code=some (c,z)->(∀j q,(Lb code)[j]?=some q->rangeAt P f (C+j)=some q)->∀(st st')(o)(a)(w)(Q),
 pa cf n c st=some (o,st')->st.al=[]->Rl P S st a w->(∀a' w',Rl P S st' a' w'->Q o.ex a' w')->code.wpIn (fw r) 0 P Q a w:=by
 intro code
 induction code with
 |skip=>
  intro C lv c z d i st st' o a w Q A _ hr v;cases d;cases A;exact wpIn_skip (v a w hr)
 |region id ops J=>
  intro C lv c z d i st st' o a w Q A p hr v;cases lv with
  |nil=>grind [Td,cp]
  |cons l lv=>
   simp only[Td]at d;split at d
   case h_2=>grind [cp]
   rename_i X D;cases d;unfold xC at D;have N:∀q:List Qa×BT,So P qs S.nt ops=some q->J=true->oa.dg l q.1 q.2=c->(Code.region id ops J).wpIn (fw r) 0 P Q a w:=fun q O T d=>by
    cases d;subst T;obtain⟨sF,E,L⟩:=qm A;obtain⟨U,G,B⟩:=qb E;cases L;exact v_ hmZ M hSZ O G B p hr fun s a' w' hs u=>v a' w' (hs▸u.uf l)
   split at D
   ·grind [Option.map_eq_some_iff]
   split at D
   ·rename_i q O
    cases D;obtain⟨sF,E,L⟩:=qm A;obtain⟨U,G,B⟩:=qb E;cases L;exact y_ hmZ M hSZ O G B p hr fun a' w' u=>v a' w' (u.uf l)
   grind [Option.map_eq_some_iff]
 |seq x y J N=>
  intro C lv c z d i st st' o a w Q A p hr v;obtain⟨⟨c1,I⟩,E,d⟩:=qb d;obtain⟨⟨c2,l2Z⟩,L,d⟩:=qm d;cases d;obtain⟨⟨H,s1⟩,G,B⟩:=qb A;refine wpIn_seq (J C lv c1 I E (fun j q Y=>i j q (by grind [Lb])) st s1 H a w _ G p hr fun a' w' u=>?_);have D:=hm c1 st H s1 G p;cases H with
  |normal=>exact N _ I c2 l2Z L (fun j q Y=>by have:=i ((Lb x).length+j) q (by simp only[Lb];grind);grind) s1 st' o a' w' Q B D u v
  |exit id=>cases B;exact v a' w' u
  |ret=>cases B;exact v a' w' u
 |cond x K T J N=>
  intro C lv c z d i st st' o a w Q A p hr v;obtain⟨y,hyZ,d⟩:=qb d;obtain⟨⟨c1,I⟩,E,d⟩:=qb d;obtain⟨⟨c2,l2Z⟩,L,d⟩:=qm d;cases d;simp only[pa]at A;split at A
  ·rename_i t e1
   obtain⟨Fr,β,R,V⟩:=hr;have D:=Ub R.sl hyZ;rw[e1]at D;obtain⟨D,_⟩:=zc D;refine wpIn_cond D ?_;cases t with
   |true=>
    exact J C lv c1 I E (fun j q Y=>i j q (by grind [Lb])) st st' o a w Q A p ⟨Fr,β,R,V⟩ v
   |false=>
    exact N _ I c2 l2Z L (fun j q Y=>by
     have:=i ((Lb K).length+j) q (by simp only[Lb];rw[He aa];simpa using Y)
     grind) st st' o a w Q A p ⟨Fr,β,R,V⟩ v
  ·cases A
 |block id b W=>
  intro C lv c z d i st st' o a w Q A p hr v;obtain⟨⟨c1,I⟩,E,d⟩:=qm d;cases d;obtain⟨⟨H,s1⟩,G,B⟩:=qm A;have F:S.sβ.length<=st.bx.length:=by
   obtain⟨Fr,β,R,V⟩:=hr;rw[R.bx.1];exact HF V
  refine wpIn_block (W C lv c1 I E i st s1 H a w _ G p hr fun a' w' u=>?_);cases H with
  |normal=>cases B;exact v a' w' (u.fi F)
  |ret=>cases B;exact v a' w' u
  |exit j=>
   dsimp only at B;simp only[Out.ex,Exit.inBlock];split at B
   ·rename_i e;cases B;rw[if_pos e];exact v a' w' (u.fi F)
   ·rename_i e;cases B;rw[if_neg e];exact v a' w' u
 |loop b W=>
  intro C lv c z d i st st' o a w Q A p hr v;cases lv with
  |nil=>grind [Td,cp]
  |cons l lv=>
   obtain⟨⟨c1,I⟩,E,d⟩:=qm d;cases d;have F:S.sβ.length<=st.bx.length:=by
    obtain⟨Fr,β,R,V⟩:=hr;rw[R.bx.1];exact HF V
   intro Z k cs hbf N U;have key:∀(m:Nat)(s:St)(a:Act)(w:World),Fc (pa cf n c1) l st.bx.length m s=some (o,st')->s.al=[]->Rl P S s a w->∃e a' w',Q e a' w'/\ArrivesIn (Machine.fenced P (fw r)) P (lone (Z.atR a (.code b::.inLoop b::k)) cs w) Z k cs e a' w':=by
    intro m
    induction m with
    |zero=>intro s a w h;cases h
    |succ m ihm=>
     intro s a w h p hr;obtain⟨⟨H,s1⟩,G,B⟩:=qb h;obtain⟨e,K,X,O,D⟩:=W C lv c1 I E i s s1 H a w (fun e a' w'=>e=H.ex/\Rl P S s1 a' w') G p hr (fun a' w' u=>⟨rfl,u⟩) Z (.inLoop b::k) cs hbf N U;obtain⟨rfl,T⟩:=O;cases H with
     |normal=>
      obtain⟨e2,a2Z,w2Z,hq2,J⟩:=ihm _ K X B rfl (T.only l F);exact⟨e2,a2Z,w2Z,hq2,.of_steps (StepsIn.trans D (.one (fenced_calm N U rfl) stepR_inLoop)) J⟩
     |exit id=>cases B;exact⟨_,K,X,v K X T,.pass (x:=.inLoop b) rfl (fun _ _=>.inl (by simp[Out.ex])) D⟩
     |ret=>cases B;exact⟨_,K,X,v K X T,.pass (x:=.inLoop b) rfl (fun _ _=>.inl (by simp[Out.ex])) D⟩
   obtain⟨e,a',w',O,D⟩:=key n _ a w A rfl (hr.only l F);exact⟨e,a',w',O,.of_steps (.one (fenced_calm N U rfl) stepR_loop) D⟩
 |exit id=>
  intro C lv c z d i st st' o a w Q A _ hr v;cases lv with
  |nil=>grind [Td,cp]
  |cons l lv=>
   cases d;cases A;exact wpIn_exit (v a w (hr.uf l))
 |ret=>
  intro C lv c z d i st st' o a w Q A _ hr v;cases lv with
  |nil=>grind [Td,cp]
  |cons l lv=>
   cases d;cases A;exact wpIn_ret (v a w (hr.uf l))
 |rangeFunc g ps az b _ _=>
  intro C lv c z d i st st' o a w Q A p hr v;cases lv with
  |nil=>grind [Td,cp]
  |cons l lv=>
   obtain⟨y,hyZ,d⟩:=qm d;cases d;exact e_ M hSZ hyZ (i 0 _ rfl) hfn hrd A hr v
 |scope b W=>
  intro C lv c z d i st st' o a w Q A p hr v;exact qU (W C lv c z d i st st' o a w _ A p hr fun a' w' u=>⟨v a' w' u,fun l=>o.c0 l⟩)
 |label l=>
  intro C lv c z d i st st' o a w Q A _ hr v;cases d;cases A;exact wpIn_label (v a w hr)
 |goto l=>grind [Td,cp]
 |refuse s=>grind [Td,cp]
end
section
variable {P:Program} {w w':World} {Fr Fr':Nat→Nat} {β β':List Nat} {T:List Deferred} {base nt:Nat} {M:Nat→Prop} {w0:World} {F0:Nat→Nat} {st st':St} {a a':Act} {cf:Callee} {Γ:Ze} {S:S0}
theorem eQ:∀(ps)(k i),look (ag k ps) i=if k<=i then ps.getD (i - k) .hd else .hd
 |[],k,i=>by simp[ag,look]
 |p::ps,k,i=>by
  simp only[ag,oe];rw[eQ ps (k+1) i]
  grind
def Xz(a:Act):ResultVar->Sem Value
 | .tmp t=>pure (a.tmps.getD t undef)
 | .cell x t=>do loadVar t (<-asAddr (a.tmps.getD x undef))
def D_(fn)(a):results fn a.tmps=(do
 let vs <-fn.results.mapM (Xz a)
 pure (if h:vs.size=1 then vs[0]else .tuple vs)):=by
 rfl
theorem wS{rs:List ResultVar}{cs:List (Sum Nat (Nat×Bool×Nat))}(R:Rel P T base M w0 F0 nt st a w Fr β):∀{rs:List ResultVar}{cs}{vs},rs.mapM (cm P)=some cs->cs.mapM (Oi st)=some vs->
 ∃us,(rs.mapM (Xz a)).run P w=.ok us w/\sa w Fr β vs us
 |[],cs,vs,h,i=>by
  simp at h;subst h;simp at i;subst i;exact⟨[],rfl,ja⟩
 |r::rs,cs,vs,h,i=>by
  rw[Cp]at h;obtain⟨c,k,h⟩:=qb h;obtain⟨A,B,h⟩:=qb h;cases h;rw[Cp]at i;obtain⟨p,l,i⟩:=qb i;obtain⟨ps,E,i⟩:=qb i;cases i;obtain⟨us,X,Y⟩:=wS (rs:=rs) (cs:=A) R B E;have one:∃u,(Xz a r).run P w=.ok u w/\Rd w Fr β p u:=by
   cases r with
   |tmp t=>
    simp only[cm,Xb]at k;subst k;simp only[Oi,Xb]at l;subst l;exact⟨_,rfl,R.sl t⟩
   |cell x ty=>
    obtain⟨g,Q,k⟩:=qb k;obtain⟨n,S,k⟩:=qb k;split at k
    ·rename_i y
     cases k;have F:=R.sl x;simp only[Oi]at l;split at l
     ·rename_i b o e1
      rw[e1]at F;obtain⟨O,C,F⟩:=F;split at l
      ·rename_i cells d
       split at l
       ·obtain⟨d,_,W,vs,e,G,L,z,N,V,_⟩:=R.bx.cells d
        rw[C]at G;cases G;have U:=z.length;have q:∀j v,((vs.drop o).take n)[j]?=some v->w.cell? ⟨O,o+j,none⟩=some v:=fun j v H=>by
         rw[List.getElem?_take]at H;split at H
         ·rw[cell_of_row _ _ _ _ _ _ L];grind
         grind
        have I:=aA Q S ia q y;refine⟨if g then .agg ((vs.drop o).take n).toArray else((vs.drop o).take n).getD 0 undef,?_,?_⟩
        ·grind [Xz,asAddr]
        ·cases g with
         |true=>
          simp only[if_true,Xb]at l⊢;subst l;exact⟨_,rfl,(z.drop o).take n,(N.drop o).take n⟩
         |false=>
          have D:n=1:=y.resolve_left da;obtain⟨v,J,K⟩:=pD (z.drop o) D (p:=p) ia;rw[J];exact K
       grind
      grind
     grind
    grind
  obtain⟨u,J,K⟩:=one;refine⟨u::us,?_,by grind [sa]⟩;simp_all
def zdA{vs}{us}(h:sa w Fr β vs us):Rd w Fr β (Nc vs) (if h:us.toArray.size=1 then us.toArray[0]else .tuple us.toArray):=by
 match vs,us,h with
 |[],us,h=>grind [sa,Nc,Rd]
 |[p],us,h=>
  grind [sa,Nc]
 |p::q::r,us,h=>
  have a:=h.length
  grind [Nc,Rd]
theorem zdy{nb}:∀(vs),La nb vs=true->(Nc vs).low nb=true
 |[],_=>rfl
 |[v],h=>by grind [La,Nc]
 |v::u::r,h=>h
def Rel.VQ{bx}{oc}(R:Rel P T base M w0 F0 nt (Wg bx oc) a w Fr β)(h:∀L∈oc,Ca L=true):Rel P [] base M w0 F0 0 (Wg bx oc) th w Fr β:=by
 have e:∀L∈oc,Ga th w β L=Ga a w β L:=fun L b=>(Zh (h L b)).symm
 refine⟨fun i=>by simp[Wg,look,Rd],rfl,Is,R.bx,R.nd,fun L b=>?_,fun L b k d ra v o g c j=>?_,fun L b v g c=>?_,(fun q n=>by cases n),fun g l=>R.may g (l.imp id ?_),R.old,R.ge,R.os,R.tape,R.output⟩
 ·rw[e L b];exact R.own L b
 ·rw[e L b]at c;rw[e k d]at j
  exact R.sep L b k d ra v o g c j
 ·rw[e L b]at c;exact R.out L b v g c
 ·rintro⟨L,b,v,c,j⟩
  exact⟨L,b,v,by rw[<-e L b];exact c,j⟩
theorem Nz{bx bx':Ha}{oc oc'}{vs2}{v0}{os}(N:bx.length=β.length)(y:Rel P [] w.heap.size (td w β oc) w Fr nt st a' w' Fr' β')(k:Le w Fr β w' Fr' β')(r:Rd w' Fr' β' (Nc vs2) v0)
 (t:os=true->∃s,Loc.slot s∈st.ow/\a'.tmps.getD s undef=v0/\look st.sl s=Nc vs2) (H:trim bx.length vs2 st.bx=bx') (J:Yg bx'.length st.ow=oc'):∃d,di P w Fr β oc vs2 os bx' oc' v0 w' Fr' d:=by
 have a:∀L,L∈oc'->L∈st.ow/\Ca L=true/\∀b j,L=.cell b j->b<bx'.length:=fun L c=>by
  rw[<-J]at c;obtain⟨z,G⟩:=Hc.1 c;cases L with
  |slot i=>cases G
  |cell b j=>exact⟨z,rfl,fun l v e=>by grind⟩
 have o:∀d:List Nat,(∀g∈d,g∈β')->(∀L∈oc',∀u,Ga th w' d L=some u->Ga a' w' β' L=some u)->os=true->Sf P w' Fr' (Nc vs2) v0/\∀g,v0.ownBlock=some g->(w.heap.size<=g\/td w β oc g)/\g∉d/\∀L∈oc',∀u,Ga th w' d L=some u->u.ownBlock≠some g:=fun d A C Q=>by
  obtain⟨s,l,B,I⟩:=t Q;obtain⟨T,p,D,E,M⟩:=y.own _ l;simp only[Ga,Xb]at D;simp only[ab,Xb]at E;rw[B]at D;rw[I]at E;subst D;subst E;have v:Ga a' w' β' (.slot s)=some v0:=by simp only[Ga,B]
  refine⟨M,fun g n=>⟨y.may g (.inr ⟨_,l,v0,v,n⟩),fun O=>y.out _ l v0 g v n (A g O),fun L c x S K=>?_⟩⟩;exact y.sep _ l L (a L c).1 (fun e=>by have:=(a L c).2.1;rw[<-e]at this;cases this) v0 x g v (C L c x S) n K
 by_cases z:bx'=st.bx
 ·have F:Rel P [] w.heap.size (td w β oc) w Fr nt (Wg bx' oc') a' w' Fr' β':=y.dm (fun i=>.inl rfl) z (fun L c=>⟨(a L c).1,fun i e=>by have:=(a L c).2.1;rw[e]at this;cases this⟩) rfl
  exact⟨β',⟨r,F.VQ (fun L c=>(a L c).2.1),k,fun L c=>(a L c).2.1,o β' (fun _ h=>h) fun L c u R=>by grind [Zh]⟩⟩
 ·have G:La bx.length vs2=true/\(st.bx.take bx.length).all (fun q=>La bx.length q.2)=true/\bx'=st.bx.take bx.length:=by
   rw[<-H]at z⊢;unfold trim at z⊢;split at z
   ·grind
   ·grind
  obtain⟨D,E,M⟩:=G;have F:Rel P [] w.heap.size (td w β oc) w Fr nt (Wg bx' oc') a' w' Fr' (β'.take bx.length):=y.cut (nb:=bx.length) (fun i=>.inl rfl) M (fun cs l=>Dj.1 E cs l) (fun L c=>⟨(a L c).1,(fun i e=>by have:=(a L c).2.1;rw[e]at this;cases this),fun b j e=>by
   have:=(a L c).2.2 b j e
   grind⟩) rfl
  refine⟨β'.take bx.length,⟨kz _ _ (zdy vs2 D) r,F.VQ (fun L c=>(a L c).2.1),⟨k.size,k.fr,k.cell,fun i g n=>?_,k.lp⟩,fun L c=>(a L c).2.1,o _ (fun g n=>zw n) fun L c u R=>?_⟩⟩
  ·have ea:=(qg n).1
   rw[Lt aa];exact k.box i g n
  ·rw[Zh (a L c).2.1]
   cases L<;>grind [Ga]
theorem tv{S}{fn}{e}{u}(g:u≠.run):∀(b:List Nat)(a)(w),a.defers=b.map mark++S.T->Rl P S st a w->(∀a' w',Rl P S st a' w'->a'.tmps=a.tmps->a'.defers=S.T->LeavesInM Fence.wide 0 P fn a.tmps e S.T u w')->
 LeavesInM Fence.wide 0 P fn a.tmps e (b.map mark++S.T) u w
 |[],a,w,c,hr,h=>h a w hr rfl c
 |D::b,a,w,c,hr,h=>by
  obtain⟨Fr,β,R,n⟩:=hr;obtain⟨o,i,d⟩:=R.zcD c;refine⟨g,.inl ⟨D,_,rfl,run_takeDeferred o,?_⟩⟩;exact tv g b {a with defers:=b.map mark++S.T} _ rfl ⟨Fr,β,i,n.trans d⟩ fun a' w' j k l=>h a' w' j k l
def ez{S}{fn}{c}(k:S.T=[])(d)(a)(w)(l:a.defers=d)(hr:Rl P S st a w)(h:∀a' w',Rl P S st a' w'->a'.tmps=a.tmps->∃v,(results fn a'.tmps).run P w'=.ok v w'/\c (.returned v) w'):
 LeavesInM Fence.wide 0 P fn a.tmps c d .returning w:=by
 have b:=hr;obtain⟨Fr,β,R,n⟩:=b;obtain⟨e,g,i,j⟩:=R.df
 grind [tv,LeavesInM,LeavesIn]
theorem zS{w}{Fr}{β}:∀(ps:List Nat)(az)(us)(sl)(tmps),(∀p∈ps,p<tmps.size)->sa w Fr β az us->(∀i,Rd w Fr β (look sl i) (tmps.getD i undef))->
 ((ps.zip us).foldl (fun(t:Array Value)(q:Nat×Value)=>t.setIfInBounds q.1 q.2) tmps).size=tmps.size/\∀i,Rd w Fr β (look ((ps.zip az).foldl (fun l p=>p::l) sl) i) (((ps.zip us).foldl (fun(t:Array Value)(q:Nat×Value)=>t.setIfInBounds q.1 q.2) tmps).getD i undef)
 |[],az,us,sl,tmps,_,_,h=>⟨rfl,h⟩
 |p::ps,[],us,sl,tmps,_,hr,h=>by simp only[sa]at hr;simp_all
 |p::ps,a::az,us,sl,tmps,d,hr,h=>by
  obtain⟨u,us,rfl,c,b⟩:=hr;simp only[List.zip_cons_cons,Jm];obtain⟨g,j⟩:=zS ps az us ((p,a)::sl) (tmps.setIfInBounds p u) (fun q e=>by grind) b fun i=>by
   rw[oe,Im,Array.getElem?_setIfInBounds]
   grind [Array.getD_eq_getD_getElem?]
  grind
theorem f_:∀(c)(k){g}{ps}{az b},(Lb c)[k]?=some (g,ps,az,b)->∀(j)(q),(Lb az++Lb b)[j]?=some q->(Lb c)[k+1+j]?=some q:=by
 intro c
 induction c with
 |seq a b o d=>
  intro k g ps az i h j q l;simp only[Lb]at h⊢;by_cases p:k<(Lb a).length
  ·grind
  ·rw[He aa]at h
   rw[He aa];have:=d _ h j q l;rwa[show k+1+j - (Lb a).length=k - (Lb a).length+1+j by omega]
 |cond x a b o d=>
  intro k g ps az i h j q l;simp only[Lb]at h⊢;by_cases p:k<(Lb a).length
  ·grind
  ·rw[He aa]at h
   rw[He aa];have:=d _ h j q l;rwa[show k+1+j - (Lb a).length=k - (Lb a).length+1+j by omega]
 |block id b n=>intro k g ps az i h;exact n k h
 |loop b n=>intro k g ps az i h;exact n k h
 |scope b n=>intro k g ps az i h;exact n k h
 |rangeFunc u r e t o d=>
  intro k g ps az i h j q l;simp only[Lb]at h⊢;cases k with
  |zero=>
   grind
  |succ k=>
   rw[kr]at h;rw[show k+1+1+j=(k+1+j)+1 by omega,kr];by_cases p:k<(Lb e).length
   ·grind
   ·rw[He aa]at h
    rw[He aa];have:=d _ h j q l;rwa[show k+1+j - (Lb e).length=k - (Lb e).length+1+j by omega]
 |_=>intro k g ps az i h;simp[Lb]at h
theorem YZ(hmZ:P.follows .mixedOrders=true){code}(X:∀f c,code f=some c->∃lv,Uj P lv f=some c){n}(hcf:dc P Γ cf){args}{bx bx'}{oc oc'}{M}{os}(h:Uk cf code n args bx oc=some (M,os,bx',oc'))
 {w} {Fr} {β} {vs} (y:Nl P Γ w Fr β args vs bx oc):Enters P hb vs w fun e w'=>∃v Fr' β',e=.returned v/\di P w Fr β oc M os bx' oc' v w' Fr' β':=by
 unfold Uk at h;split at h
 case h_2=>cases h
 rename_i b az;split at h
 case h_2=>cases h
 rename_i e0Z f k live E hbx;obtain⟨c,hcZ,hAZ⟩:=qb h;obtain⟨q,hqZ,hBZ⟩:=qb hAZ;split at hBZ
 case isFalse=>cases hBZ
 rename_i R;obtain⟨⟨o1Z,s1⟩,Y,h⟩:=qb hBZ;dsimp only at h;have V:=y.args;obtain⟨v0,us,rfl,hyZ,hus⟩:=V;obtain⟨g,H,rfl⟩:=hyZ;obtain⟨g0Z,N,hF,hat⟩:=y.rel.bx.2 b _ hbx;rw[H]at N;cases N;have hrec:zr P w Fr β f k .ready live E g:=by
  rcases hat with⟨vs,e,_,G,_⟩|⟨_,_,_,_,_,heZ,h1Z⟩
  ·grind [sa,Rd]
  ·grind
 obtain⟨r,q1Z,⟨fn,I,htm⟩,⟨x,hra⟩,⟨hst,hpe⟩,hsn⟩:=hrec;obtain⟨lv,u⟩:=X f c hcZ;unfold Uj at u;rw[I]at u;dsimp only at u;split at u
 case h_2=>cases u
 rename_i body W;split at u
 case isFalse=>cases u
 obtain⟨⟨ccZ,lv'⟩,hcc,u⟩:=qb u;obtain⟨rg,hrg,u⟩:=qb u;obtain⟨rs,hrs,rfl⟩:=qm u;obtain⟨K,lvk,k1Z,C⟩:=wM hrg k q hqZ;rw[sc]at C;have S:rangeAt P f k=some K:=by unfold rangeAt;rw[I];simp only[Ra,W];exact k1Z
 rw[hra]at S;cases S;unfold yC at C;split at C
 case isFalse=>cases C
 rename_i hps;obtain⟨⟨ac,lv2⟩,hac,C⟩:=qb C;obtain⟨⟨bcZ,lv3⟩,hbc,C⟩:=qm C;cases C;obtain⟨ps,e1⟩:∃ps,ps=r.params:=⟨_,rfl⟩;rw[<-e1]at R Y hps;have hSZ:Good Γ ⟨w.heap.size,td w β oc,w,Fr,fn.ntmps,w,Fr,β,[]⟩:=⟨y.g,fun g H=>⟨Γ.lt w y.g g H,y.Nh g H⟩⟩;have hpall:∀p∈ps.toList,p<fn.ntmps:=fun p y=>by simpa using List.all_eq_true.1 hps p y
 have Z:((r.params.zip us.toArray).foldl (fun tmps(t,a)=>tmps.setIfInBounds t a) r.tmps)=(ps.toList.zip us).foldl (fun(t:Array Value)(q:Nat×Value)=>t.setIfInBounds q.1 q.2) r.tmps:=by
  rw[<-e1,<-Array.foldl_toList,Array.toList_zip]
 obtain⟨hsz,hsl⟩:=zS ps.toList az us (live.zip E) r.tmps (by rw[htm];omega) hus hsn;obtain⟨a0,U⟩:∃a0:Act,a0={tmps:=((ps.toList.zip us).foldl (fun(t:Array Value)(q:Nat×Value)=>t.setIfInBounds q.1 q.2) r.tmps),defers:=[]}:=⟨_,rfl⟩;have A:∀L∈oc,∀w β,Ga a0 w β L=Ga th w β L:=fun L z w β=>Zh (y.cells L z)
 have R0Z:Rel P [] w.heap.size (td w β oc) w Fr fn.ntmps {sl:=(ps.toList.zip az).foldl (fun l p=>p::l) (live.zip E),ow:=oc,al:=[],bx:=bx} a0 w Fr β:=by
  refine⟨fun i=>by subst U;exact hsl i,ia,by subst U;exact Is,y.rel.bx,y.rel.nd,fun L z=>?_,fun L z L'Z hL' ra v v'Z g hvZ hv'=>?_,fun L z v g hvZ=>?_,(fun q hqZ=>by cases hqZ),fun g H=>.inr ?_,y.rel.old,la _,rfl,rfl,rfl⟩
  ·obtain⟨v,p,k1Z,C,k3Z⟩:=y.rel.own L z
   exact⟨v,p,by rw[A L z];exact k1Z,by rw[Pz (y.cells L z) (oc:=oc)];exact C,k3Z⟩
  ·rw[A L z]at hvZ;rw[A L'Z hL']at hv'
   exact y.rel.sep L z L'Z hL' ra v v'Z g hvZ hv'
  ·rw[A L z]at hvZ;exact y.rel.out L z v g hvZ
  ·refine H.imp id ?_
   rintro⟨L,z,v,hvZ,H⟩;exact⟨L,z,v,by rw[<-A L z];exact hvZ,H⟩
 refine⟨g,us,r,rfl,q1Z,?_,?_⟩
 ·rw[<-e1,hus.length,R];simp
 rw[Z];refine roundIn_of_wpIn trivial ?_;rw[<-U];have T:∀j K,(Lb r.assign++Lb r.body)[j]?=some K->rangeAt P f (k+1+j)=some K:=fun j K hjZ=>by
  grind [rangeAt,f_]
 refine Uo (r:=some g) hmZ hcf hSZ (f:=f) ⟨fn,I,rfl⟩ (fun l e=>by cases e;exact⟨r,q1Z⟩) r.assign (k+1) lvk ac lv2 hac (fun j K hjZ=>T j K ia) _ s1 o1Z a0 w _ Y rfl ⟨Fr,β,R0Z,Le.refl _ _ _⟩ fun a1Z w1Z hr1=>?_
 obtain⟨Fr1,β1Z,RxZ,J⟩:=hr1;have hb1:β1Z[b]?=some g:=J.box _ _ H;split at h
 case h_2=>cases h
 rename_i e1' f1Z k1' D F Q;obtain⟨⟨o,st⟩,hev2,h⟩:=qb h;obtain⟨g0Z,N,hF1,hat1⟩:=RxZ.bx.2 b _ Q;rw[hb1]at N;cases N;have hrec1:zr P w1Z Fr1 β1Z f1Z k1' .ready D F g:=by
  rcases hat1 with⟨vs,e,_,G,_⟩|⟨_,_,_,_,_,heZ,h1Z⟩
  ·obtain⟨_,_,_,G,_⟩:=G;simp only[Rd]at G
  ·cases heZ;exact h1Z
 obtain⟨r1,u1Z,u2Z,u3Z,⟨u4Z,u5Z⟩,u6Z⟩:=hrec1;obtain⟨R1Z,B⟩:=RxZ.uH (r':={r1 with state:=.busy}) (f':=f1Z) (k':=k1') (s':=.busy) (live':=D) (snap':=F) Q hb1 fun J=>⟨_,World.putObj_heap_same (xg.1 u1Z).1,u2Z,u3Z,rfl,fun i=>(u6Z i).mono J⟩
 refine⟨_,run_beginRound u1Z u4Z,?_⟩;have hal1:=hm _ _ _ _ Y rfl;refine Uo (r:=some g) hmZ hcf hSZ (f:=f) ⟨fn,I,rfl⟩ (fun l e=>by cases e;exact⟨r,q1Z⟩) r.body (k+1+(Lb r.assign).length) lv2 bcZ lv3 hbc (fun j K hjZ=>by
  have:=T ((Lb r.assign).length+j) K (by rw[He aa];simpa using hjZ)
  grind) _ st o a1Z _ _ hev2 hal1 ⟨Fr1,β1Z,R1Z,J.trans B⟩ fun a' w' hr'=>?_
 obtain⟨Fr',β',R'Z,hl'⟩:=hr';have hb':β'[b]?=some g:=hl'.box _ _ H;split at h
 case h_2=>cases h
 rename_i e0' f' k' live' snap' O;obtain⟨g0Z,N,hF',hat'⟩:=R'Z.bx.2 b _ O;rw[hb']at N;cases N;have hrec':zr P w' Fr' β' f' k' .busy live' snap' g:=by
  rcases hat' with⟨vs,e,_,G,_⟩|⟨_,_,_,_,_,heZ,h1Z⟩
  ·obtain⟨_,_,_,G,_⟩:=G;simp only[Rd]at G
  ·grind
 obtain⟨r',p1Z,p2Z,p3Z,p4Z,p5Z⟩:=hrec';have hgl':=(xg.1 p1Z).1
 have fin:∀(s:Tp)(d:Option Code),s.of {r' with state:=if d.isNone then .ready else .done,pending:=d}->(trim bx.length [.flat (.bool d.isNone)] (st.bx.set b (0,[.lp f' k' s live' snap'])))=bx'->M=[.flat (.bool d.isNone)]->os=false->Yg bx'.length st.ow=oc'->
  ∃v w'',(Instr.endRound g d).run P w'=.ok v w''/\∃v0 Fr' β',Ending.returned v=.returned v0/\di P w Fr β oc M os bx' oc' v0 w'' Fr' β':=fun s d hs h1Z G h3Z h4Z=>by
  subst G;subst h3Z;obtain⟨R2Z,B⟩:=R'Z.uH (r':={r' with state:=if d.isNone then .ready else .done,pending:=d}) (f':=f') (k':=k') (s':=s) (live':=live') (snap':=snap') O hb' fun B=>⟨_,World.putObj_heap_same hgl',p2Z,p3Z,hs,fun i=>(p5Z i).mono B⟩
  refine⟨_,_,run_endRound d p1Z,.bool d.isNone,Fr',?_⟩;obtain⟨β'',hpost⟩:=Nz (v0:=.bool d.isNone) (vs2:=[.flat (.bool d.isNone)]) (os:=false) y.rel.bx.1 R2Z (hl'.trans B) (by simp[Nc,Rd,Ab]) (fun h=>by cases h) h1Z h4Z;exact⟨β'',rfl,hpost⟩
 cases o with
 |normal=>
  cases h;exact fin .ready none ⟨rfl,rfl⟩ rfl rfl rfl rfl
 |exit i=>
  cases h;exact fin (.done (.exit i)) (some (.exit i)) ⟨rfl,rfl⟩ rfl rfl rfl rfl
 |ret=>
  cases h;exact fin (.done .ret) (some .ret) ⟨rfl,rfl⟩ rfl rfl rfl rfl
theorem Rel.bare(R:Rel P T base M w0 F0 nt st a w Fr β):Rel P [] base M w0 F0 nt st {a with defers:=[]} w Fr β:=by
 have k:∀L,Ga {a with defers:=[]} w β L=Ga a w β L:=fun L=>by rfl
 exact⟨R.sl,R.nt,Is,R.bx,R.nd,fun L b=>by exact R.own L b,fun L b d c ra v j g=>by exact R.sep L b d c ra v j g,fun L b v g=>by exact R.out L b v g,fun q h=>by exact R.al q h,fun g e=>R.may g (e.imp id fun⟨L,b,v,l,i⟩=>⟨L,b,v,ia,i⟩),R.old,R.ge,R.os,R.tape,R.output⟩
theorem jy{fn}{rs}(o:fn.results.toList.mapM (cm P)=some rs){bx bx':Ha}{oc oc'}{z}{os}(D:bx.length=β.length)
 (h:(rs.mapM (Oi st)).map (fun vs=>(vs,Qn rs st.ow,trim bx.length vs st.bx,Yg (trim bx.length vs st.bx).length st.ow))=some (z,os,bx',oc')) (a') (w') (K:Rl P ⟨w.heap.size,td w β oc,w,Fr,nt,w,Fr,β,T⟩ st a' w'):
 ∃v,(results fn a'.tmps).run P w'=.ok v w'/\∃v0 Fr' β',Ending.returned v=.returned v0/\di P w Fr β oc z os bx' oc' v0 w' Fr' β':=by
 obtain⟨Fr',β',B,G⟩:=K;have A:=B.bare;obtain⟨i,j⟩:∃i:Act,i={a' with defers:=[]}:=⟨_,rfl⟩;have R:a'.tmps=i.tmps:=by rw[j]
 rw[<-j]at A;rw[R];obtain⟨vs2,u,h⟩:=qm h;simp only[Fp]at h;obtain⟨rfl,I,E,U⟩:=h;obtain⟨us,b,L⟩:=wS (rs:=fn.results.toList) (cs:=rs) A o u;obtain⟨v0,q⟩:∃v0,(if h:us.toArray.size=1 then us.toArray[0]else .tuple us.toArray)=v0:=⟨_,rfl⟩;have l:(results fn i.tmps).run P w'=.ok v0 w':=by
  rw[D_,Array.mapM_eq_mapM_toList];simp only[Qb,Sem.run_map];rw[b,<-q];rfl
 have k:Rd w' Fr' β' (Nc vs2) v0:=by rw[<-q];exact zdA L
 refine⟨v0,l,v0,Fr',?_⟩;have d:os=true->∃s,Loc.slot s∈st.ow/\i.tmps.getD s undef=v0/\look st.sl s=Nc vs2:=fun H=>by
  have e:∃s,rs=[.inl s]/\Loc.slot s∈st.ow:=by
   rw[<-I]at H;rcases rs with _|⟨r,_|⟨y,a⟩⟩
   ·cases H
   ·cases r<;>grind [Qn]
   ·cases r<;>cases H
  obtain⟨s,p,F⟩:=e;subst p;cases u;refine⟨s,F,?_,rfl⟩;have g:fn.results.toList.mapM (cm P)=some [.inl s]:=o;cases n:fn.results.toList with
  |nil=>grind
  |cons x xs=>
   rw[n,Cp]at g;obtain⟨c,S,g⟩:=qb g;obtain⟨C,a,g⟩:=qb g;cases g;have N:x=.tmp s:=by
    cases x with
    |tmp t=>grind [cm]
    |cell y ty=>
     grind [cm,Option.bind_eq_some_iff]
   have M:xs=[]:=by
    cases xs with
    |nil=>rfl
    |cons y ys=>
     rw[Cp]at a;obtain⟨c,S,a⟩:=qb a;obtain⟨C,O,a⟩:=qb a;cases a
   subst N;subst M;rw[n]at b;cases b<;>grind
 obtain⟨Q,J⟩:=Nz (os:=os) (bx':=bx') (oc':=oc') D A G k d E ia
 grind
def Xv{Γ}{args}{vs}{bx}{oc}(b:Nl P Γ w Fr β args vs bx oc)(n:args.length<=nt):
 Rel P [] w.heap.size (td w β oc) w Fr nt {sl:=ag 0 args,ow:=oc,al:=[],bx:=bx} {tmps:=vs.toArray++Array.replicate (nt - vs.toArray.size) undef,defers:=[]} w Fr β:=by
 have u:=b.args.length;obtain⟨a0,k⟩:∃a0:Act,a0={tmps:=vs.toArray++Array.replicate (nt - vs.toArray.size) undef,defers:=[]}:=⟨_,rfl⟩;have e:∀i,a0.tmps.getD i undef=vs.getD i undef:=fun i=>by
  rw[Im,FA]
  grind
 rw[<-k]
 ·skip
  have c:∀L∈oc,Ga a0 w β L=Ga th w β L:=fun L a=>Zh (b.cells L a)
  refine⟨fun i=>?_,ia,by grind [Is],b.rel.bx,b.rel.nd,fun L a=>?_,fun L a l d ra v y g h j=>?_,fun L a v g h=>?_,(fun q t=>by cases t),fun g o=>.inr ?_,b.rel.old,la _,rfl,rfl,rfl⟩
  ·rw[eQ,if_pos (Za _),qo,e]
   by_cases r:i<args.length
   ·obtain⟨v,x,z⟩:=b.args.get i _ (qe r)
    grind
   grind [Rd]
  ·obtain⟨v,p,z,r,x⟩:=b.rel.own L a
   exact⟨v,p,ia,by rw[Pz (b.cells L a) (oc:=oc)];exact r,x⟩
  ·rw[c L a]at h;rw[c l d]at j
   exact b.rel.sep L a l d ra v y g h j
  ·rw[c L a]at h;exact b.rel.out L a v g h
  ·refine o.imp id ?_
   grind
def NZ(H:P.follows .mixedOrders=true)(J:P.funcs[hb]?=none){code}{lib}(i:∀f c,code f=some c->∃lv,Uj P lv f=some c)(t:dc P Γ lib):∀n,dc P Γ (Qh code lib n):=by
 intro n
 induction n with
 |zero=>intro f args bx oc x os bx' oc' h;grind [Qh]
 |succ n K=>
  intro f args bx oc x os bx' oc' h;simp only[Qh]at h;cases d:code f with
  |none=>
   rw[d]at h;dsimp only at h;split at h
   ·grind [YZ]
   ·exact t f args bx oc x os bx' oc' h
  |some c=>
   rw[d]at h;dsimp only at h;split at h
   case isFalse=>cases h
   rename_i q;obtain⟨⟨o,st⟩,A,h⟩:=qb h;obtain⟨lv,a⟩:=i f c d;unfold Uj at a;split at a
   case h_2=>cases a
   rename_i fn p;split at a
   case h_2=>cases a
   rename_i body b;split at a
   case isFalse=>cases a
   obtain⟨⟨F,B⟩,z,a⟩:=qb a;obtain⟨rg,I,a⟩:=qb a;obtain⟨rs,v,rfl⟩:=qm a;intro w Fr β vs k;refine enters_of (by grind [ij]) (fun e=>by grind) ?_;have G:Good Γ ⟨w.heap.size,td w β oc,w,Fr,fn.ntmps,w,Fr,β,[]⟩:=⟨k.g,fun g D=>⟨Γ.lt w k.g g D,k.Nh g D⟩⟩;have E:=Xv (nt:=fn.ntmps) k q;refine callsIn_wide.1 (callsIn_of_wp_marks (n:=0) p b trivial ?_);refine Uo (r:=none) H K G (f:=f) ⟨fn,p,rfl⟩ (fun l e=>by cases e) body 0 lv.main F B z ?_ _ st o _ w _ A rfl ⟨Fr,β,E,Le.refl _ _ _⟩ fun a' w' u=>?_
   ·grind [rangeAt]
   cases o with
   |exit id=>cases h
   |normal=>exact ez rfl _ a' w' rfl u fun y C j _=>jy v k.rel.bx.1 h y C j
   |ret=>exact ez rfl _ a' w' rfl u fun y C j _=>jy v k.rel.bx.1 h y C j
end
def Sub(c c':Callee):Prop:=∀f a b o r,c f a b o=some r->c' f a b o=some r
variable {c c':Callee} {st st':St}
theorem xu(h:Sub c c'){d}{f}{az}(hs:Dc c st d f az=some st'):Dc c' st d f az=some st':=by
 unfold Dc at hs⊢;obtain⟨r,a,b⟩:=qm hs;rw[h _ _ _ _ _ a,kd,b]
theorem qM(h:Sub c c'){d}{f}{az}(hs:Sd c st d f az=some st'):Sd c' st d f az=some st':=by
 unfold Sd at hs⊢;split at hs
 ·obtain⟨r,a,b⟩:=qb hs
  rw[h _ _ _ _ _ a,Ra]
  grind [xu]
 grind [xu]
theorem y9(h:Sub c c'){f}{az}(hs:Mi c f az=true):Mi c' f az=true:=by
 unfold Mi at hs⊢;simp only[Vc]at hs⊢;refine⟨hs.1,?_⟩;obtain⟨_,hs⟩:=hs;split at hs
 ·rename_i vs r e;rw[h _ _ _ _ _ e];exact hs
 grind
theorem QR(h:Sub c c'){sl}{op}(hs:sb c sl op=true):sb c' sl op=true:=by
 cases op<;>grind [y9,sb]
theorem UZ(h:Sub c c'){f k}{live}{g}{r}(hs:Zj c f k live g st=some r):Zj c' f k live g st=some r:=by
 unfold Zj at hs⊢
 grind [Option.bind_eq_some_iff,xu]
theorem lJ{d}{x}:na c st d (.asg x)=na c' st d (.asg x):=by
 cases x with
 |t s=>rfl
 |c v=>rfl
theorem iJ{d}{b}{n}{x y}:na c st d (.append b n x y)=na c' st d (.append b n x y):=by
 rfl
theorem hJ{d}{x y}:na c st d (.appendS x y)=na c' st d (.appendS x y):=by
 rfl
theorem EH(h:Sub c c'){d}{op}(hs:na c st d op=some st'):na c' st d op=some st':=by
 cases op
 case call f az=>exact qM h hs
 case callv g az=>
  simp only[na]at hs⊢
  grind [qM,xu]
 case asg x=>grind [lJ]
 case append b n x y=>grind [iJ]
 case appendS x y=>grind [hJ]
 all_goals exact hs
theorem cr(h:Sub c c'){o}(hs:stepG c st o=some st'):stepG c' st o=some st':=by
 grind [stepG,Option.bind_eq_some_iff,EH]
def tT(h:Sub c c'){o}(hs:fe c st o=some st'):fe c' st o=some st':=by
 grind [fe,Option.bind_eq_some_iff,QR,EH]
theorem fy(h:Sub c c'):∀{l}{st st'},vc c l st=some st'->vc c' l st=some st'
 |[],_,_,hs=>hs
 |o::l,st,st',hs=>by
  simp only[vc]at hs⊢;obtain⟨s,a,b⟩:=qb hs;rw[cr h a];exact fy h b
theorem gy(h:Sub c c'):∀{l}{st st'},Xf c l st=some st'->Xf c' l st=some st'
 |[],_,_,hs=>hs
 |o::l,st,st',hs=>by
  simp only[Xf]at hs⊢;obtain⟨s,a,b⟩:=qb hs;rw[tT h a];exact gy h b
theorem cD{b c}(h:∀s r,b s=some r->c s=some r){lv}{nb}:∀{n m}{st}{r},n<=m->Fc b lv nb n st=some r->Fc c lv nb m st=some r
 |0,_,_,_,_,hs=>by cases hs
 |n+1,0,_,_,e,_=>by omega
 |n+1,m+1,st,r,e,hs=>by
  simp only[Fc]at hs⊢;obtain⟨⟨o,s⟩,d,a⟩:=qb hs;rw[h _ _ d];cases o with
  |normal=>exact cD h aa a
  |exit i=>exact a
  |ret=>exact a
def PS{α}(a:Option α):same a a=a:=if_pos rfl
theorem dp(h:Sub c c'){live}:∀{t}{st r},yd c live t st=some r->yd c' live t st=some r
 | .done,_,_,hs=>hs
 | .one o t,st,r,hs=>by
   simp only[yd]at hs⊢;obtain⟨s,a,b⟩:=qb hs;rw[cr h a];exact dp h b
 | .two o t q,st,r,hs=>by
   simp only[yd]at hs⊢;obtain⟨a,b⟩:=iA hs;obtain⟨s,d,e⟩:=qb a;rw[cr h d,Ra,dp h e,dp h b,PS]
def uT(h:Sub c c'){st st'}{o}(hs:Jc c st o=some st'):Jc c' st o=some st':=by
 grind [Jc,Option.bind_eq_some_iff,cr]
theorem hy(h:Sub c c'):∀{l}{st st'},ye c l st=some st'->ye c' l st=some st'
 |[],_,_,hs=>hs
 |o::l,st,st',hs=>by
  simp only[ye]at hs⊢;obtain⟨s,a,b⟩:=qb hs;rw[uT h a];exact hy h b
theorem Ph(h:Sub c c'){n m}(d:n<=m):∀{k}{st}{r},pa c n k st=some r->pa c' m k st=some r
 | .skip,_,_,hs=>hs
 | .Ld l p t,st,r,hs=>by
   grind [pa,Option.map_eq_some_iff,Option.bind_eq_some_iff,gy,fy]
 | .dg l p t,st,r,hs=>by
   grind [pa,Option.map_eq_some_iff,Option.bind_eq_some_iff,hy,dp]
 | .seq a b,st,r,hs=>by
   simp only[pa]at hs⊢;obtain⟨⟨o,s⟩,q,j⟩:=qb hs;rw[Ph h d q];cases o with
   |normal=>exact Ph h d j
   |exit i=>exact j
   |ret=>exact j
 | .cond x a b,st,r,hs=>by
   simp only[pa]at hs⊢;split at hs
   ·rename_i t e
    cases t
    ·exact Ph h d hs
    ·exact Ph h d hs
   omega
 | .block id b,st,r,hs=>by
   simp only[pa]at hs⊢;obtain⟨s,q,j⟩:=qm hs;rw[Ph h d q,kd,j]
 | .range f k lv g,st,r,hs=>by
   grind [pa,UZ]
 | .loop lv b,st,r,hs=>by
   exact cD (fun s r hs=>Ph h d hs) d hs
 | .exit id lv,_,_,hs=>hs
 | .ret lv,_,_,hs=>hs
noncomputable def bp(cf:Callee)(n:Nat)(c:Ba)(args:List PV)(bx:Ha)(oc:List Loc):Option Cg:=
 if args.length<=c.nt then
  (pa cf n c.body {sl:=ag 0 args,ow:=oc,al:=[],bx}).bind fun(o,st)=>
    match o with
    | .exit _=>none
    |_=>(c.yb.mapM (Oi st)).map fun vs=>(vs,Qn c.yb st.ow,trim bx.length vs st.bx,Yg (trim bx.length vs st.bx).length st.ow)
 else none
def LZ(h:Sub c c'){n m}(a:n<=m){k}{args}{bx}{oc}{r}(hs:bp c n k args bx oc=some r):bp c' m k args bx oc=some r:=by
 grind [bp,Option.bind_eq_some_iff,Ph]
variable {code:FuncId→Option Ba} {lib:Callee}
theorem ey(n)(f)(args)(bx)(oc):Qh code lib (n+1) f args bx oc=match code f with|none=>if f=hb then Uk (Qh code lib n) code n args bx oc else lib f args bx oc|some k=>bp (Qh code lib n) n k args bx oc:=rfl
def XZ(h:Sub c c'){n m}(b:n<=m){args}{bx}{oc}{r}(hs:Uk c code n args bx oc=some r):Uk c' code m args bx oc=some r:=by
 unfold Uk at hs⊢;split at hs
 case h_2=>cases hs
 split at hs
 case h_2=>cases hs
 obtain⟨k,d,hs⟩:=qb hs;obtain⟨q,e,hs⟩:=qb hs;rw[d,Ra,e,Ra];split at hs
 case isFalse=>cases hs
 rename_i l;rw[if_pos l];obtain⟨⟨o,s1⟩,g,a⟩:=qb hs;rw[Ph h b g,Ra];dsimp only at a⊢;split at a
 case h_2=>cases a
 obtain⟨p,i,j⟩:=qb a;rw[Ph h b i];exact j
theorem bD:∀n,Sub (Qh code lib n) (Qh code lib (n+1))
 |0=>fun f a b o r h=>by cases h
 |n+1=>fun f a b o r h=>by
  rw[ey]at h⊢;cases c:code f with
  |none=>
   rw[c]at h;dsimp only at h⊢;split at h
   ·rename_i d;rw[if_pos d];exact XZ (bD n) (Nat.le_succ n) h
   grind
  |some k=>rw[c]at h;exact LZ (bD n) (Nat.le_succ n) h
def ds{n m}(d:n<=m):Sub (Qh code lib n) (Qh code lib m):=by
 induction m with
 |zero=>have:n=0:=aa
        subst this;exact fun _ _ _ _ _ h=>h
 |succ m c=>
  by_cases h:n=m+1
  ·subst h;exact fun _ _ _ _ _ h=>h
  ·exact fun f a b o r hr=>bD m _ _ _ _ _ (c aa f a b o r hr)
noncomputable def fa(code:FuncId->Option Ba)(lib:Callee):Callee:=fun f args bx oc=>
 open Classical in if h:∃n r,Qh code lib n f args bx oc=some r then some (h.choose_spec.choose)else none
def Nu{f}{a}{b}{o}{r}:fa code lib f a b o=some r ↔ ∃n,Qh code lib n f a b o=some r:=by
 unfold fa;constructor
 ·intro h
  split at h<;>grind
 ·rintro⟨n,d⟩
  have c:∃n r,Qh code lib n f a b o=some r:=⟨n,r,d⟩;have e:=c.choose_spec.choose_spec;have g:=ds (zi c.choose n) _ _ _ _ _ e;have i:=ds (Jj c.choose n) _ _ _ _ _ d
  grind
structure bi (F:Nat→Callee) (W:Callee):Prop where
 mono:∀ n m,n≤m→Sub (F n) (F m)
 fin:∀ f a b o r,W f a b o=some r→∃ n,F n f a b o=some r
variable {F:Nat→Callee} {W:Callee}
theorem xx(h:bi F W){d}{f}{az}(hs:Dc W st d f az=some st'):∃n,Dc (F n) st d f az=some st':=by
 unfold Dc at hs⊢;obtain⟨r,a,b⟩:=qm hs;obtain⟨n,c⟩:=h.fin _ _ _ _ _ a
 grind
theorem pM(h:bi F W){d}{f}{az}(hs:Sd W st d f az=some st'):∃n,Sd (F n) st d f az=some st':=by
 unfold Sd at hs⊢;split at hs
 ·rename_i g
  obtain⟨⟨vs,os,bx,oc⟩,b,a⟩:=qb hs;obtain⟨n,c⟩:=h.fin _ _ _ _ _ b;dsimp only at a;split at a
  ·grind
  ·rename_i i
   obtain⟨m,e⟩:=xx h a;exact⟨max n m,by rw[if_pos g,h.mono _ _ (zi n m) _ _ _ _ _ c,Ra];dsimp only;rw[if_neg i];exact xu (h.mono _ _ (Jj n m)) e⟩
 grind [xx]
theorem NR(h:bi F W){f}{az}(hs:Mi W f az=true):∃n,Mi (F n) f az=true:=by
 unfold Mi at hs⊢;split at hs
 ·rename_i vs r e
  obtain⟨n,a⟩:=h.fin _ _ _ _ _ e
  grind
 grind
def G9(h:bi F W){sl}{op}(hs:sb W sl op=true):∃n,sb (F n) sl op=true:=by
 cases op
 case call f az=>exact NR h hs
 case callv g az=>
  grind [sb,NR]
 all_goals exact⟨0,hs⟩
theorem TZ(h:bi F W){f k}{live}{g}{r}(hs:Zj W f k live g st=some r):∃n,Zj (F n) f k live g st=some r:=by
 unfold Zj at hs⊢;split at hs<;>grind [Option.bind_eq_some_iff,xx]
def sT(h:bi F W){d}{op}(hs:na W st d op=some st'):∃n,na (F n) st d op=some st':=by
 cases op
 case call f az=>exact pM h hs
 case callv g az=>
  simp only[na]at hs⊢;split at hs<;>grind [pM,xx]
 case asg x=>exact⟨0,by grind [lJ]⟩
 case append b n x y=>exact⟨0,by grind [iJ]⟩
 case appendS x y=>exact⟨0,by grind [hJ]⟩
 all_goals exact⟨0,hs⟩
theorem qA(h:bi F W){o}(hs:stepG W st o=some st'):∃n,stepG (F n) st o=some st':=by
 unfold stepG at hs⊢;obtain⟨b,c,a⟩:=qb hs;rw[c];cases b
 ·simp_all
 ·exact sT h a
def zbV(h:bi F W){o}(hs:fe W st o=some st'):∃n,fe (F n) st o=some st':=by
 unfold fe at hs⊢;obtain⟨b,d,a⟩:=qb hs;rw[d];cases b
 ·simp_all
 ·simp only[if_true,Ra]at a⊢
  split at a
  ·rename_i c
   obtain⟨n,e⟩:=sT h a;obtain⟨m,c⟩:=G9 h c;exact⟨max n m,by rw[if_pos (QR (h.mono _ _ (Jj n m)) c)];exact EH (h.mono _ _ (zi n m)) e⟩
  grind
theorem PN(h:bi F W):∀{l}{st st'},vc W l st=some st'->∃n,vc (F n) l st=some st'
 |[],_,_,hs=>⟨0,hs⟩
 |o::l,st,st',hs=>by
  obtain⟨s,a,b⟩:=qb hs;obtain⟨n1,c⟩:=qA h a;obtain⟨n2,d⟩:=PN h b;refine⟨max n1 n2,?_⟩;simp only[vc];rw[cr (h.mono _ _ (zi ..)) c];exact fy (h.mono _ _ (Jj ..)) d
theorem QN(h:bi F W):∀{l}{st st'},Xf W l st=some st'->∃n,Xf (F n) l st=some st'
 |[],_,_,hs=>⟨0,hs⟩
 |o::l,st,st',hs=>by
  obtain⟨s,a,b⟩:=qb hs;obtain⟨n1,c⟩:=zbV h a;obtain⟨n2,d⟩:=QN h b;refine⟨max n1 n2,?_⟩;simp only[Xf];rw[tT (h.mono _ _ (zi ..)) c];exact gy (h.mono _ _ (Jj ..)) d
theorem iy(h:bi F W){live}:∀{t}{st r},yd W live t st=some r->∃m,yd (F m) live t st=some r
 | .done,_,_,hs=>⟨0,hs⟩
 | .one o t,st,r,hs=>by
   obtain⟨s,a,b⟩:=qb hs;obtain⟨n1,c⟩:=qA h a;obtain⟨n2,d⟩:=iy h b;refine⟨max n1 n2,?_⟩;simp only[yd];rw[cr (h.mono _ _ (zi ..)) c];exact dp (h.mono _ _ (Jj ..)) d
 | .two o t q,st,r,hs=>by
   obtain⟨a,b⟩:=iA hs;obtain⟨s,e,g⟩:=qb a;obtain⟨n1,c⟩:=qA h e;obtain⟨n2,d⟩:=iy h g;obtain⟨n3,i⟩:=iy h b;refine⟨max n1 (max n2 n3),?_⟩;simp only[yd];rw[cr (h.mono _ _ (zi ..)) c,Ra,dp (h.mono _ _ aa) d,dp (h.mono _ _ aa) i,PS]
def zbW(h:bi F W){st st'}{o}(hs:Jc W st o=some st'):∃m,Jc (F m) st o=some st':=by
 grind [Jc,Option.bind_eq_some_iff,qA]
theorem SN(h:bi F W):∀{l}{st st'},ye W l st=some st'->∃m,ye (F m) l st=some st'
 |[],_,_,hs=>⟨0,hs⟩
 |o::l,st,st',hs=>by
  obtain⟨s,a,b⟩:=qb hs;obtain⟨n1,c⟩:=zbW h a;obtain⟨n2,d⟩:=SN h b;refine⟨max n1 n2,?_⟩;simp only[ye];rw[uT (h.mono _ _ (zi ..)) c];exact hy (h.mono _ _ (Jj ..)) d
theorem yn(h:bi F W){n}:∀{k}{st}{r},pa W n k st=some r->∃m,pa (F m) n k st=some r
 | .skip,_,_,hs=>⟨0,hs⟩
 | .Ld l p t,st,r,hs=>by
   obtain⟨s,c,d⟩:=qm hs;obtain⟨s1,u,v⟩:=qb c;obtain⟨n1,j⟩:=QN h u;obtain⟨n2,q⟩:=PN h v;refine⟨max n1 n2,?_⟩;simp only[pa];rw[gy (h.mono _ _ (zi ..)) j,Ra,fy (h.mono _ _ (Jj ..)) q,kd,d]
 | .dg l p t,st,r,hs=>by
   obtain⟨s,c,d⟩:=qm hs;obtain⟨s1,u,v⟩:=qb c;obtain⟨n1,j⟩:=SN h u;obtain⟨n2,q⟩:=iy h v;refine⟨max n1 n2,?_⟩;simp only[pa];rw[hy (h.mono _ _ (zi ..)) j,Ra,dp (h.mono _ _ (Jj ..)) q,kd,d]
 | .seq a b,st,r,hs=>by
   obtain⟨⟨o,s⟩,c,d⟩:=qb hs;obtain⟨n1,j⟩:=yn h c;cases o with
   |normal=>
    obtain⟨n2,q⟩:=yn h d;refine⟨max n1 n2,?_⟩;simp only[pa];rw[Ph (h.mono _ _ (zi ..)) (la n) j];exact Ph (h.mono _ _ (Jj ..)) (la n) q
   |exit i=>exact⟨n1,by grind [pa]⟩
   |ret=>exact⟨n1,by simp only[pa];grind⟩
 | .cond x a b,st,r,hs=>by
   simp only[pa]at hs⊢;split at hs
   ·rename_i t e
    cases t
    ·exact yn h hs
    ·exact yn h hs
   grind
 | .block id b,st,r,hs=>by
   simp only[pa]at hs⊢;obtain⟨s,c,d⟩:=qm hs;obtain⟨n1,j⟩:=yn h c
   grind
 | .range f k lv g,st,r,hs=>by
   grind [pa,TZ]
 | .loop lv b,st,r,hs=>by
   simp only[pa]at hs⊢;have y:∀(k nb:Nat)(st:St)(r:Out×St),Fc (pa W n b) lv nb k st=some r->∃m,Fc (pa (F m) n b) lv nb k st=some r:=by
    intro k nb
    induction k with
    |zero=>intro st r h;cases h
    |succ k w=>
     intro st r hs;obtain⟨⟨o,s⟩,c,d⟩:=qb hs;obtain⟨n1,j⟩:=yn h c;cases o with
     |normal=>
      obtain⟨n2,q⟩:=w _ r d;refine⟨max n1 n2,?_⟩;simp only[Fc];rw[Ph (h.mono _ _ (zi ..)) (la n) j];exact cD (fun s r hs=>Ph (h.mono _ _ (Jj ..)) (la n) hs) (la k) q
     |exit i=>exact⟨n1,by simp only[Fc];grind⟩
     |ret=>exact⟨n1,by simp only[Fc];grind⟩
   grind
 | .exit id lv,_,_,hs=>⟨0,hs⟩
 | .ret lv,_,_,hs=>⟨0,hs⟩
def sC:bi (Qh code lib) (fa code lib):=⟨fun n m h=>ds h,fun f a b o r h=>Nu.1 h⟩
def VZ{f}{k}(d:code f=some k){args}{bx}{oc}{r}{n}(h:bp (fa code lib) n k args bx oc=some r):fa code lib f args bx oc=some r:=by
 unfold bp at h;split at h
 case isFalse=>cases h
 rename_i e;obtain⟨p,a,b⟩:=qb h;obtain⟨m,c⟩:=yn sC a;refine Nu.2 ⟨max m n+1,?_⟩;rw[ey,d];dsimp only;unfold bp;rw[if_pos e,Ph (ds (zi m n)) (Jj m n) c];exact b
def WZ(w:code hb=none){args}{bx}{oc}{r}{n}(h:Uk (fa code lib) code n args bx oc=some r):fa code lib hb args bx oc=some r:=by
 unfold Uk at h;split at h
 case h_2=>cases h
 split at h
 case h_2=>cases h
 rename_i z f k live g e;obtain⟨C,i,h⟩:=qb h;obtain⟨q,j,h⟩:=qb h;split at h
 case isFalse=>cases h
 rename_i x;obtain⟨⟨D,s1⟩,l,a⟩:=qb h;dsimp only at a;split at a
 case h_2=>cases a
 rename_i e1 A B c d b;obtain⟨p,o,t⟩:=qb a;obtain⟨m,u⟩:=yn sC l;obtain⟨y,v⟩:=yn sC o;refine Nu.2 ⟨max (max m y) n+1,?_⟩;rw[ey,w];unfold Uk;dsimp only;rw[e];dsimp only;rw[i,Ra,j,Ra,if_pos x,Ph (ds aa) aa u,Ra];rw[b];dsimp only;rw[Ph (ds aa) aa v];exact t
def Ud{f}(a:f≠hb)(b:code f=none){args}{bx}{oc}{r}(h:lib f args bx oc=some r):fa code lib f args bx oc=some r:=
 Nu.2 ⟨1,by grind [ey]⟩
def gD{P}{Γ}(g:P.follows .mixedOrders=true)(d:P.funcs[hb]?=none)(a:∀f c,code f=some c->∃lv,Uj P lv f=some c)(b:dc P Γ lib):dc P Γ (fa code lib):=fun f args bx oc e os bx' oc' h=>by
 obtain⟨n,i⟩:=Nu.1 h;exact NZ g d a b n f args bx oc e os bx' oc' i
open Go.WideShapes Go.ChangeShapes
def Mk(w:World)(g:Nat):Nat:=match w.heap[g]? with|some (.cells cs _ _)=>cs.size|_=>0
def l1{w}{g o}{v}(h:w.cell? ⟨g,o,none⟩=some v):o<Mk w g:=by
 grind [World.cell?,Mk]
def nT{w:World}{a}{v}(h:w.cell? a=some v):a=⟨a.block,a.off,none⟩:=by
 obtain⟨b,o,s⟩:=a;cases s<;>grind [World.cell?]
def fit(P:Program):Nat->TypeId->List PV->Prop
 |0,_,_=>False
 |n+1,t,ps=>match P.underlying t with
  |some .bool=>∃b,ps=[.flat (.bool b)]
  |some (.int k)=>∃i,ps=[.flat (.int k i)]/\(Lit.int k i).wf=true
  |some .string=>∃s:ByteArray,ps=[.flat (.string s)]/\s.size<=maxLen
  |some (.pointer e)=>ps=[.flat (.pointer none)]\/(P.cellsOf e=0/\ps=[.hd])\/∃qs,ps=[.xd qs]/\fit P n e qs
  |some (.slice e)=>∃a:List (List PV),ps=[.ha a.length a.flatten]/\a.length<=maxLen/\∀xs∈a,fit P n e xs
  |some (.struct c)=>∃a:List (List PV),ps=a.flatten/\a.length=c.size/\∀(j:Nat)(f:Field)(xs:List PV),c[j]?=some f->a[j]?=some xs->fit P n f.type xs
  |some (.array m e)=>∃a:List (List PV),ps=a.flatten/\a.length=m/\∀xs∈a,fit P n e xs
  |_=>True
def Rw(P:Program)(w:World)(n:Nat)(t:TypeId)(cs:List Value):Prop:=∃ps,sa w (Mk w) [] ps cs/\Oc cs/\fit P n t ps
def mH{w}{base}{a}{n}{cs}(h:w.cells? base a n=some cs)(p:0<n):a=⟨a.block,a.off,none⟩/\Row w (Mk w) a.block a.off cs:=by
 obtain⟨_,q,k⟩:=World.cells?_some h;have g:=k 0 p;rw[qe aa]at g;have i:a=⟨a.block,a.off,none⟩:=by
  have:=nT g;obtain⟨b,o,s⟩:=a;simp only[Addr.add]at this;simp_all
 refine⟨i,fun j v l=>?_⟩;have d:j<n:=by have:=(qg l).1;omega
 have c:=k j d;rw[l]at c;have e:a.add j=⟨a.block,a.off+j,none⟩:=by
  have:=nT c;rw[i]at this⊢;unfold Addr.add at this⊢;split
  ·grind
  ·rfl
 rw[e]at c;exact⟨l1 c,c⟩
def G_{w}{Fr}{g o}{us vs}(h:Row w Fr g o us)(k:Row w Fr g (o+us.length) vs):Row w Fr g o (us++vs):=fun j v a=>by
 by_cases ea:j<us.length
 ·rw[Hk ea]at a;exact h j v a
 ·rw[He aa]at a
  have:=k (j - us.length) v a
  grind
theorem uR{us vs}(h:Oc us)(k:Oc vs):Oc (us++vs):=fun v a=>(wg.1 a).elim (h v) (k v)
theorem LG{P}{w}{n}{α:Type}{ty:α->TypeId}{size}:∀(l:List α)(cs),cs.length=(l.map size).sum->
 (∀(j)(f),l[j]?=some f->Rw P w n (ty f) ((cs.drop ((l.take j).map size).sum).take (size f)))->
 ∃a:List (List PV),sa w (Mk w) [] a.flatten cs/\Oc cs/\a.length=l.length/\∀(j:Nat)(f)(xs),l[j]?=some f->a[j]?=some xs->fit P n (ty f) xs
 |[],cs,c,_=>by
  have:cs=[]:=qz ia;subst this;exact⟨[],ja,(fun v b=>by cases b),rfl,(fun j f xs h=>by simp at h)⟩
 |f::l,cs,c,h=>by
  obtain⟨ps,b,i,k⟩:=h 0 f rfl;obtain⟨a,d,r,e,t⟩:=LG (P:=P) (w:=w) (n:=n) (ty:=ty) (size:=size) l (cs.drop (size f)) ia fun j g p=>by
   have:=h (j+1) g ia
   grind [List.drop_drop]
  refine⟨ps::a,?_,?_,by simp[e],fun j g xs o q=>?_⟩
  ·have:=b.append d
   grind [List.take_append_drop]
  ·grind [uR,List.take_append_drop]
  grind
def mapM_at{α γ:Type}{f}{l:List α}{r:List γ}(h:l.mapM f=some r)(j:Nat)(o)(e:l[j]?=some o):∃c,f o=some c:=by
 obtain⟨a,b⟩:=pp h;have d:j<r.length:=by rw[a];exact(qg e).1
 obtain⟨k,g,i⟩:=b j _ (qe d)
 grind
section
variable {H:Type} {enc:TypeId × Value→H} {P:Program} {w:World} {base:Nat} {spare:Nat→Bool} {held:Bool}
def Pn{n}{t}{v}{p}(h:Rd w (Mk w) [] p v)(b:v.oneCell'=true)(a:fit P n t [p]):Rw P w n t [v]:=
 ⟨[p],by grind [sa],fun u c=>by grind,a⟩
theorem dS(m c j)(h:j<=m):(((List.range m).take j).map fun _=>c).sum=j* c:=by
 rw[List.map_const',List.sum_replicate_nat,Ac,List.length_range,Nat.min_eq_left h]
def uk{n}{t}{v}(b:v.oneCell'=true)(a:fit P n t [.hd]):Rw P w n t [v]:=Pn (p:=.hd) (by simp[Rd]) b a
theorem zdw(K:Kids P (·<P.types.size))(U:∀t e,t<P.types.size->P.underlying t=some (.slice e)->0<P.cellsOf e):∀(n)(t:TypeId)(cs)(x),t<P.types.size->
 DataW.trod enc P w base spare held n t cs=some x->Rw P w n t cs:=by
 intro n
 induction n with
 |zero=>intro t cs x _ h;simp[DataW.trod]at h
 |succ n L=>
  intro t cs x ht h;rw[DataW.trod_step]at h;unfold DataW.trodStep at h;split at h
  case h_1 b e=>exact Pn (p:=.flat (.bool b)) (by simp[Rd,Ab]) rfl (by grind [fit])
  case h_2 k k' i e=>
   split at h
   ·exact Pn (p:=.flat (.int k' i)) (by simp[Rd,Ab]) rfl (by grind [fit])
   grind
  case h_3 e=>exact uk rfl (by grind [fit])
  case h_4 s e=>
   split at h
   ·exact Pn (p:=.flat (.string s)) (by simp[Rd,Ab]) rfl (by grind [fit])
   grind
  case h_5 e=>exact Pn (p:=.flat (.pointer none)) (by simp[Rd,Ab]) rfl (by grind [fit])
  case h_6 e a g=>
   simp only[hU,aI]at h;obtain⟨y,⟨u,o,G⟩,rfl⟩:=h;by_cases Q:P.cellsOf e=0
   ·exact uk rfl (by grind [fit])
   ·obtain⟨R,hr⟩:=mH o aa
    obtain⟨qs,v,C,D⟩:=L e u y (K.pointer ht g) G;refine Pn (p:=.xd qs) ?_ rfl (by grind [fit])
    grind [Rd]
  case h_7 e=>
   refine Pn (p:=.ha 0 []) ?_ rfl (by simp only[fit,e];exact⟨[],rfl,Za _,fun _ h=>by cases h⟩)
   grind [Rd]
  case h_8 e a len O g=>
   have J:=U t e ht g;split at h
   case isFalse=>cases h
   simp only[aI]at h;obtain⟨D,F,_⟩:=h;have u:∀i,i<len->∃cs y,w.cells? base (a.add (i* P.cellsOf e)) (P.cellsOf e)=some cs/\DataW.trod enc P w base spare held n e cs=some y:=fun i T=>by
    obtain⟨c,o⟩:=mapM_at F i i (List.getElem?_range T)
    grind [Option.bind_eq_some_iff]
   by_cases Q:len=0
   ·refine Pn (p:=.ha 0 []) ?_ rfl (by simp only[fit,g];exact⟨[],rfl,Za _,fun _ h=>by cases h⟩)
    grind [Rd]
   ·have H:∀k,k<=len->∃(vs:List Value)(d:List (List PV)),vs.length=k* P.cellsOf e/\Row w (Mk w) a.block a.off vs/\sa w (Mk w) [] d.flatten vs/\Oc vs/\d.length=k/\∀xs∈d,fit P n e xs:=by
     intro k
     induction k with
     |zero=>exact fun _=>⟨[],[],da,(fun j v l=>by grind),ja,(fun v S=>by cases S),rfl,fun _ h=>by cases h⟩
     |succ k v=>
      intro X;obtain⟨vs,d,z,q,r,A,M,V⟩:=v aa;obtain⟨cs,y,C,N⟩:=u k aa;obtain⟨qa,Y⟩:=mH C J;obtain⟨ps,r1,W,Z⟩:=L e cs y (K.slice ht g) N;have S:cs.length=P.cellsOf e:=(World.cells?_some C).2.1;refine⟨vs++cs,d++[ps],ia,G_ q ?_,by simpa using r.append r1,uR A W,by simp[M],fun xs B=>?_⟩
      ·grind [Addr.add]
      grind
    obtain⟨vs,d,z,q,r,A,M,V⟩:=H len (la _);refine Pn (p:=.ha d.length d.flatten) ?_ rfl (by simp only[fit,g];grind);have R:a=⟨a.block,a.off,none⟩:=by
     obtain⟨cs,y,C,N⟩:=u 0 aa;obtain⟨qa,_⟩:=mH C J;unfold Addr.add at qa;simpa using qa
    grind [Rd]
  case h_9 u g=>
   obtain⟨s1,I,v⟩:=K.struct ht g;split at h
   case isFalse=>cases h
   rename_i o;obtain⟨xs,B,_⟩:=qm h;obtain⟨d,z,q,r,A⟩:=LG (P:=P) (w:=w) (n:=n) (ty:=Field.type) (size:=fun f=>P.cellsOf f.type) u.toList _ (by rw[o,I]) fun j f l=>by
    obtain⟨c,E⟩:=mapM_at B j f l
    grind
   exact⟨d.flatten,z,q,by grind [fit]⟩
  case h_10 m e g=>
   obtain⟨s1,I⟩:=K.array ht g;split at h
   case isFalse=>cases h
   rename_i o;obtain⟨xs,B,_⟩:=qm h;obtain⟨d,z,q,r,A⟩:=LG (P:=P) (w:=w) (n:=n) (ty:=fun _=>e) (size:=fun _=>P.cellsOf e) (List.range m) _ (by rw[o,I];have:=dS m (P.cellsOf e) m (la _);grind) fun j f l=>by
    obtain⟨c,E⟩:=mapM_at B j f l
    grind [dS]
   refine⟨d.flatten,z,q,?_⟩;simp only[fit,g];refine⟨d,rfl,by rw[r];simp,fun ys G=>?_⟩;obtain⟨j,l⟩:=List.getElem?_of_mem G;have u:j<m:=by have:=(qg l).1;rw[r]at this;simpa using this
   exact A j j ys (List.getElem?_range u) l
  case h_11 e=>exact uk rfl (by grind [fit])
  case h_12 e=>exact uk rfl (by grind [fit])
  case h_13 e=>exact uk rfl (by simp only[fit,e])
  case h_14 e=>exact uk rfl (by simp only[fit,e])
  case h_15 e=>exact uk rfl (by simp only[fit,e])
  case h_16 e=>exact uk rfl (by grind [fit])
  case h_17 e=>exact uk rfl (by grind [fit])
  case h_18 e=>exact uk rfl (by grind [fit])
  case h_19 e=>exact uk rfl (by grind [fit])
  case h_20 e=>exact uk rfl (by grind [fit])
  grind
def wq(P:Program)(n:Nat)(t:TypeId)(p:PV):Prop:=match P.underlying t with
 |some (.struct _)|some (.array _ _)=>∃ps,p=.agg ps/\fit P n t ps
 |_=>fit P n t [p]
def fits(P:Program):List TypeId->List PV->Prop
 |[],[]=>True
 |t::a,p::ps=>(∃n,wq P n t p)/\fits P a ps
 |_,_=>False
def zW{r}{a}{t}{v}(h:Cell.okWide P w r a t v):v.cells=#[v]:=by
 cases v
 case agg cs=>
  exfalso;unfold Cell.okWide at h;split at h
  all_goals first
   |(simp_all;done)
   |skip
  unfold Cell.ok at h;split at h<;>simp_all
 all_goals rfl
theorem SU(K:Kids P (·<P.types.size))(o:∀t e,t<P.types.size->P.underlying t=some (.slice e)->0<P.cellsOf e){r}{j}{t:TypeId}{v}{d}{ps}(ht:t<P.types.size)(c:Value.okWide P w r j t v)
 (h:DataW.Trod enc P w base spare held t v d ps):∃n p,Rd w (Mk w) [] p v/\wq P n t p:=by
 obtain⟨n,l⟩:=h;obtain⟨qs,g,i,y⟩:=zdw K o n t _ _ ht l;unfold Value.okWide at c;split at c
 case h_1 k e=>
  obtain⟨cs,rfl,_⟩:=c;refine⟨n,.agg qs,?_,by grind [wq]⟩;exact⟨cs.toList,da,g,i⟩
 case h_2 m k e=>
  obtain⟨cs,rfl,_⟩:=c;refine⟨n,.agg qs,?_,by grind [wq]⟩;exact⟨cs.toList,da,g,i⟩
 case h_3 e1 e2=>
  have k:=zW c;rw[k]at g;obtain⟨p,q,rfl⟩:∃p q,qs=p::q:=by
   cases qs<;>grind [sa]
  obtain⟨u,A,⟨rfl,rfl⟩,x,z⟩:=g;have:q=[]:=by
   cases q with
   |nil=>rfl
   |cons a b=>grind [sa]
  refine⟨n,p,x,?_⟩
  grind [wq]
theorem jJ(K:Kids P (·<P.types.size))(i:∀t e,t<P.types.size->P.underlying t=some (.slice e)->0<P.cellsOf e){r}{k}:∀{c:List TypeId}{vs}{g}{ps},(∀t∈c,t<P.types.size)->
 (∀(j:Nat) t v,c[j]?=some t->vs[j]?=some v->Value.okWide P w r k t v)->DataW.TrodAll enc P w base spare held c vs g ps->∃Pg,sa w (Mk w) [] Pg vs/\fits P c Pg
 |[],vs,g,ps,_,_,h=>by
  cases vs<;>cases g<;>simp[DataW.TrodAll]at h;exact⟨[],ja,trivial⟩
 |t::c,vs,g,ps,b,a,h=>by
  obtain⟨v,A,d,l,p,q,rfl,rfl,rfl,o,u⟩:=trodAll_cons h;obtain⟨n,z,D,x⟩:=SU K i (b t da) (a 0 t v rfl rfl) o;obtain⟨Pg,E,y⟩:=jJ K i (fun t ht=>b t (by simp[ht])) (fun j t v B C=>a (j+1) t v ia ia) u;exact⟨z::Pg,by grind [sa],⟨n,x⟩,y⟩
end
theorem ZT{H}{enc}{P}{W i}(K:Kids P (·<P.types.size))(l:∀t e,t<P.types.size->P.underlying t=some (.slice e)->0<P.cellsOf e)(j:Below W.heap.size W i):∀{g:List TypeId}{vs}{c:List (DataW H)}{ps},(∀t∈g,t<P.types.size)->
 DataW.TrodAll enc P W 0 (fun _=>true) true g vs c ps->DataW.TrodAll enc P i 0 (fun b=>decide (b<W.heap.size)) true g vs c ps
 |[],vs,c,ps,_,h=>by
  grind [DataW.TrodAll]
 |t::g,vs,c,ps,a,h=>by
  have ea:=DataW.TrodAll.lt h;obtain⟨v,x,d,o,p,q,rfl,rfl,rfl,⟨n,r⟩,u⟩:=trodAll_cons h;refine⟨p,q,⟨n,?_⟩,ZT K l j (fun t ht=>a t (by simp[ht])) u,rfl⟩;have w:=DataW.trod_respare (spare':=fun b=>decide (b<W.heap.size)) K l n _ _ _ (a t da) r fun m k=>by
   grind
  exact DataW.trod_carry n _ _ _ w fun m k=>j.same (ea m (wg.2 (.inl k)))
def F9{H}{enc}{P}{W o}{f:Func}{s:ChangeSpec}{args}{g i}{b}{tb}(K:Kids P (·<P.types.size))(z:∀t e,t<P.types.size->P.underlying t=some (.slice e)->0<P.cellsOf e)
 (r:DataW.Whole enc P f.params.toList s.vars false W args.toList g i b) (a:s.vars=[]) (c:s.fn H g={results:=[.lit (.bool true)],args:=g}) (d:f.resultTypes=#[tb]) (n:P.underlying tb=some .bool) (v:∀t∈f.params.toList,t<P.types.size)
 (u:Below W.heap.size W o):s.post enc P f false true false false W args (.bool true) o:=by
 have k:=r;obtain⟨p,q,w,j,rfl,x,y⟩:=r;have l:i=[]/\q=[]:=by
  rw[a]at j;cases i<;>simp[DataW.TrodVars]at j;exact⟨rfl,j⟩
 obtain⟨rfl,rfl⟩:=l;refine⟨g,[],_,[],p,[],k,?_,?_,?_,u.frame _,fun h=>by cases h⟩
 ·rw[Ye,c,d]
  exact trodAll_mk1 (shut_bool n true)
 ·grind [ZT]
 ·rw[Ye,c,a]
  rfl
theorem aU{H}{enc}{P}{w}{base}{spare}{held}:∀{b}{vs}{a:List (DataW H)}{ps},DataW.TrodAll enc P w base spare held b vs a ps->a.length=b.length
 |[],vs,a,ps,h=>by grind [DataW.TrodAll]
 |t::b,vs,a,ps,h=>by
  obtain⟨v,g,d,c,p,q,rfl,rfl,rfl,_,e⟩:=trodAll_cons h;simp[aU e]
variable {P:Program} {Γ:Ze} {cf:Callee}
def rW(h:dc P Γ cf){f}(i:f≠hb){args}{v}{os}{bx}{oc}(d:cf f args [] []=some ([.flat v],os,bx,oc)){w}{Fr}{vs}(c:Γ.G w)(hr:sa w Fr [] args vs):
 Calls P f vs.toArray w fun e w'=>e=.returned v/\Below w.heap.size w w':=by
 have b:=h f args [] [] _ _ _ _ d w Fr [] vs ⟨c,hr,jH w Fr,(fun L h=>by cases h),fun g _=>Kn⟩;unfold Enters at b;rw[if_neg i]at b;refine b.2.mono ?_;rintro e w' ⟨v0,Fr',β',rfl,a⟩;have:=a.rd;obtain⟨rfl,_⟩:=this;exact⟨rfl,a.rel.os,a.rel.tape,a.rel.output,a.le.size,fun k j=>(a.rel.old k j Kn).1⟩
def uo(P:Program)(Γ:Ze)(f:FuncId)(spec:List Value->Option Value):Prop:=ij P f=true/\∀vs v,spec vs=some v->Ab v=true/\∀w,Γ.G w->Calls P f vs.toArray w fun e w'=>e=.returned v/\Below w.heap.size w w'
def fp:List PV->Option (List Value)
 |[]=>some []
 | .flat v::r=>(fp r).map (v::·)
 |_=>none
def ak(spec:FuncId->List Value->Option Value):Callee:=fun f args bx oc=>match bx,oc with
 |[],[]=>((fp args).bind (spec f)).map fun v=>([.flat v],false,[],[])
 |_,_=>none
theorem ky{w}{Fr}{β}:∀{args}{us vs},fp args=some us->sa w Fr β args vs->vs=us
 |[],us,vs,h,k=>by grind [fp,sa]
 |p::r,us,vs,h,k=>by
  cases p<;>simp only[fp]at h<;>try (cases h;done)
  obtain⟨d,a,rfl⟩:=qm h;obtain⟨u,e,rfl,b,c⟩:=k;rw[b.1,ky a c]
def P0{spec}(ra:∀f vs v,spec f vs=some v->f≠hb)(h:∀f vs v,spec f vs=some v->uo P Γ f (spec f)):dc P Γ (ak spec):=by
 intro f args bx oc p os bx' oc' b;unfold ak at b;split at b
 case h_2=>cases b
 obtain⟨v,o,b⟩:=qm b;cases b;obtain⟨us,d,a⟩:=qb o;obtain⟨g,i⟩:=h f us v a;intro w Fr β vs c;refine enters_of g (ra f us v a) ?_;obtain rfl:=ky d c.args;obtain⟨j,k⟩:=i _ v a;refine(k w c.g).mono ?_;rintro e w' ⟨rfl,l⟩;obtain⟨R,n⟩:=c.rel.grow l (Fr':=Fr) fun _ _=>rfl
 exact⟨v,Fr,β,rfl,by simp[Nc,Rd,j],R,n,(fun L h=>by cases h),fun h=>by cases h⟩
def Rn(x:Option (Out×St))(Q:Out->St->Prop):Prop:=∃o s,x=some (o,s)/\Q o s
theorem Rn.mono{x}{Q R}(h:Rn x Q)(k:∀o s,Q o s->R o s):Rn x R:=by
 obtain⟨o,s,a,b⟩:=h;exact⟨o,s,a,k o s b⟩
def ka:Nat:=2^64
def Kh{p:Prop}(h:p:=by unfold ka;omega):p:=h
end wa

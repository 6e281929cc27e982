/- Texts of this proof, merged. -/
import Derived.Test.YtmpiobfdchlikaaGreatDoorBa
import Derived.RangeFuncIn
import Derived.Orders
import Derived.ReadAgain
import Derived.ChangeSame
import Derived.ChangeReads
import Derived.DataReads
import Derived.WideShapes
set_option linter.all false
set_option maxHeartbeats 4000000
section
namespace Nun
open Go Go.RowKit
structure Glob where
 D:Nat→Prop
 G:World→Prop
 lt:∀ w,G w→∀ g,D g→g<w.heap.size
 keep:∀ w w',G w→(∀ g,D g→w'.heap[g]? =w.heap[g]?)→G w'
def act0:Act:=⟨#[],[]⟩
def zli(bx:zae)(oc:List Loc):St:=⟨[],oc,[],bx⟩
def zgy(w:World)(β:List Nat)(oc:List Loc)(g:Nat):Prop:=g∈β\/∃L∈oc,∃v,zay act0 w β L=some v/\v.ownBlock=some g
structure Pre (P:Program) (Γ:Glob) (w:World) (Fr:Nat→Nat) (β:List Nat) (args:List PV) (vs:List Value) (bx:zae) (oc:List Loc):Prop where
 g:Γ.G w
 args:Rds w Fr β args vs
 rel:Rel P [] w.heap.size (zgy w β oc) w Fr 0 (zli bx oc) act0 w Fr β
 cells:∀ L∈oc,zad L=true
 dis:∀ g,Γ.D g→¬ zgy w β oc g
structure Post (P:Program) (w:World) (Fr:Nat→Nat) (β:List Nat) (oc:List Loc) (vs':List PV) (os:Bool) (bx':zae) (oc':List Loc) (v:Value) (w':World) (Fr':Nat→Nat) (β':List Nat):Prop where
 rd:Rd w' Fr' β' (zef vs') v
 rel:Rel P [] w.heap.size (zgy w β oc) w Fr 0 (zli bx' oc') act0 w' Fr' β'
 le:Le w Fr β w' Fr' β'
 cells:∀ L∈oc',zad L=true
 own:os=true→OwnV P w' Fr' (zef vs') v∧∀ g,v.ownBlock=some g→(w.heap.size≤g∨zgy w β oc g)∧g ∉ β'∧∀ L∈oc',∀ u,zay act0 w' β' L=some u→u.ownBlock≠some g
def zgz(P:Program)(f:FuncId):Bool:=match P.funcs[f]? with
 |some fn=>fn.name != "runtime.NumGoroutine" &&fn.body.isSome
 |none=>false
def Enters(P:Program)(f:FuncId)(vs:List Value)(w:World)(R:Ending->World->Prop):Prop:=
 if f=yldF then∃l az r,vs=.func (.yield l) #[] #[]::az/\w.heap[l]?=some (.loop r)/\az.length=r.params.size/\
  RoundIn Fence.wide 0 P l r.fn ((r.params.zip az.toArray).foldl (fun tmps(t,a)=>tmps.setIfInBounds t a) r.tmps) r.assign r.body w R
 else zgz P f=true/\Calls P f vs.toArray w R
theorem Enters.mono{P:Program}{f:FuncId}{vs:List Value}{w:World}{R R':Ending->World->Prop}(h:Enters P f vs w R)(k:∀e w',R e w'->R' e w'):Enters P f vs w R':=by
 unfold Enters at h⊢;split
 ·rename_i hf
  rw[if_pos hf]at h;obtain⟨l,az,r,h1,h2,h3,h4⟩:=h;exact⟨l,az,r,h1,h2,h3,h4.mono k⟩
 ·rename_i hf
  rw[if_neg hf]at h;exact⟨h.1,h.2.mono k⟩
theorem enters_of{P:Program}{f:FuncId}{vs:List Value}{w:World}{R:Ending->World->Prop}(h:zgz P f=true)(hn:f≠yldF)(k:Calls P f vs.toArray w R):Enters P f vs w R:=by
 unfold Enters;rw[if_neg hn];exact⟨h,k⟩
def zcj(P:Program)(Γ:Glob)(cf:Callee):Prop:=∀f args bx oc vs' os bx' oc',cf f args bx oc=some (vs',os,bx',oc')->∀w Fr β vs,Pre P Γ w Fr β args vs bx oc->
 Enters P f vs w fun e w'=>∃v Fr' β',e=.returned v/\Post P w Fr β oc vs' os bx' oc' v w' Fr' β'
section
variable {P:Program} {w w':World} {Fr Fr':Nat→Nat} {β β':List Nat} {T:List Deferred} {base nt:Nat} {M:Nat→Prop} {w0:World} {F0:Nat→Nat} {st st':St} {a a':Act} {cf:Callee}
mutual
theorem z9h:∀(p:PV)(v:Value),p.noPtr=true->Rd w Fr β p v->Rd w Fr β' p v
 | .unk,_,h,_=>by cases h
 | .flat u,v,_,k=>by simpa[Rd]using k
 | .slc n cs,v,h,k=>by
   simp only[Rd]at k⊢;obtain⟨b,cap,h1,h2,h3⟩:=k;refine⟨b,cap,h1,h2,h3.imp id ?_⟩;rintro⟨g,o,vs,ha,hr,hs,ho⟩;exact⟨g,o,vs,ha,hr,zih cs vs h hs,ho⟩
 | .agg cs,v,h,k=>by
   simp only[Rd]at k⊢;obtain⟨vs,h1,hs,ho⟩:=k;exact⟨vs,h1,zih cs vs h hs,ho⟩
 | .tup cs,v,h,k=>by
   simp only[Rd]at k⊢;obtain⟨vs,h1,hs⟩:=k;exact⟨vs,h1,zih cs vs h hs⟩
 | .ptr b o,v,h,k=>by cases h
 | .elt cs,v,h,k=>by
   simp only[Rd]at k⊢;obtain⟨g,o,vs,h1,hr,hs,ho⟩:=k;exact⟨g,o,vs,h1,hr,zih cs vs h hs,ho⟩
 | .clo f cs,v,h,k=>by cases h
 | .yld b,v,h,k=>by cases h
 | .bsl _ _ _,v,h,k=>by cases h
 | .lp _ _ _ _ _,v,h,k=>by cases h
theorem zih:∀(ps:List PV)(vs:List Value),zcd ps=true->Rds w Fr β ps vs->Rds w Fr β' ps vs
 |[],vs,_,k=>by simpa[Rds]using k
 |p::ps,vs,h,k=>by
  simp only[zcd,wb1]at h;simp only[Rds]at k⊢;obtain⟨v,r,h1,h2,h3⟩:=k;exact⟨v,r,h1,z9h p v h.1 h2,zih ps r h.2 h3⟩
end
theorem z69:∀(vs:List PV),zcd vs=true->(zef vs).noPtr=true
 |[],_=>rfl
 |[v],h=>by simpa[zcd,zef]using h
 |v::u::r,h=>h
theorem zkp{base:Nat}{w:World}:Marks [] base w []:=⟨[],List.nodup_nil,rfl,fun D h=>by cases h⟩
theorem z3v(w:World)(Fr:Nat->Nat):Rel P [] w.heap.size (zgy w [] []) w Fr 0 (zli [] []) act0 w Fr []:=
 ⟨fun i=>by simp[zli,look,Rd],rfl,zkp,⟨rfl,fun b cs h=>by simp[zli]at h⟩,List.nodup_nil,(fun L h=>by cases h),(fun L h=>by cases h),(fun L h=>by cases h),(fun p h=>by cases h),(fun g h=>by
  rcases h with h|⟨L,h,_⟩
  ·cases h
  ·cases h),fun _ _ _=>⟨rfl,rfl⟩,wab _,rfl,rfl,rfl⟩
theorem zkq{g:Nat}:¬zgy w [] [] g:=by
 rintro(h|⟨L,h,_⟩)<;>cases h
theorem zcg{L:Loc}(h:zad L=true):zay a w β L=zay act0 w β L:=by
 cases L with
 |slot i=>cases h
 |cell b j=>rfl
theorem zqu{L:Loc}(h:zad L=true){oc:List Loc}:pvAt st L=pvAt (zli st.bx oc) L:=by
 cases L with
 |slot i=>cases h
 |cell b j=>rfl
theorem Rel.boxes(R:Rel P T base M w0 F0 nt st a w Fr β):Rel P [] w.heap.size (zgy w β (st.ow.filter zad)) w Fr 0 (zli st.bx (st.ow.filter zad)) act0 w Fr β:=by
 have mem:∀L,L∈st.ow.filter zad->L∈st.ow/\zad L=true:=fun L h=>by simpa using h
 refine⟨fun i=>by simp[zli,look,Rd],rfl,zkp,R.bx,R.nd,fun L hL=>?_,fun L hL L' hL' hne v v' g hv hv'=>?_,fun L hL v g hv=>?_,(fun p h=>by cases h),fun g hg=>.inr ?_,fun _ _ _=>⟨rfl,rfl⟩,wab _,rfl,rfl,rfl⟩
 ·obtain⟨h1,h2⟩:=mem L hL
  obtain⟨v,p,k1,k2,k3⟩:=R.own L h1;exact⟨v,p,by rw[<-zcg (a:=a) h2];exact k1,by rw[<-zqu h2];exact k2,k3⟩
 ·obtain⟨h1,h2⟩:=mem L hL
  obtain⟨h1',h2'⟩:=mem L' hL';rw[<-zcg (a:=a) h2]at hv;rw[<-zcg (a:=a) h2']at hv';exact R.sep L h1 L' h1' hne v v' g hv hv'
 ·obtain⟨h1,h2⟩:=mem L hL
  rw[<-zcg (a:=a) h2]at hv;exact R.out L h1 v g hv
 ·exact hg
theorem zvu{f:FuncId}(hf:zgz P f=true){args:Array Value}:(callFunc f args).run P w=.ok (.enter f args) w:=by
 unfold zgz at hf;split at hf
 ·rename_i fn hfn
  simp only[wb1,bne_iff_ne,ne_eq]at hf;obtain⟨h1,h2⟩:=hf;have h3:fn.body.isNone=false:=by cases h:fn.body<;>simp_all
  simp only[callFunc,wav];show(Result.andThen (.ok P w) _:Result Next)=_;simp only[waw,hfn,h3];rw[if_neg (by simpa using h1)];rfl
 ·cases hf
theorem Rel.addOwn(R:Rel P T base M w0 F0 nt st a w Fr β){d:Nat}{p:PV}{v:Value}(hv:a.tmps.getD d undef=v)(hp:look st.sl d=p)(ho:OwnV P w Fr p v)
 (hb:∀g,v.ownBlock=some g->(base<=g\/M g)/\g∉β/\∀L∈st.ow,L≠.slot d->∀u,zay a w β L=some u->u.ownBlock≠some g):Rel P T base M w0 F0 nt {st with ow:=.slot d::st.ow} a w Fr β:=by
 have hvd:zay a w β (.slot d)=some v:=by simp only[zay,hv]
 have hpv:∀L,pvAt {st with ow:=.slot d::st.ow} L=pvAt st L:=fun L=>zy0 rfl rfl
 refine⟨R.sl,R.nt,R.df,R.bx,R.nd,fun L hL=>?_,fun L hL L' hL' hne u u' g hu hu' hg hg'=>?_,fun L hL u g hu hg=>?_,R.al,fun g hg=>?_,R.old,R.ge,R.os,R.tape,R.output⟩
 ·rcases waq.1 hL with rfl|hL
  ·exact⟨v,p,hvd,by rw[hpv];simp only[pvAt,hp],ho⟩
  ·obtain⟨u,q,k1,k2,k3⟩:=R.own L hL
   exact⟨u,q,k1,by rw[hpv];exact k2,k3⟩
 ·by_cases e:L=.slot d
  ·subst e
   rw[hvd]at hu;cases hu;rcases waq.1 hL' with h|h
   ·exact hne h.symm
   ·exact(hb g hg).2.2 L' h (was hne) u' hu' hg'
  ·have hL2:=(waq.1 hL).resolve_left e
   by_cases e':L'=.slot d
   ·subst e'
    rw[hvd]at hu';cases hu';exact(hb g hg').2.2 L hL2 e u hu hg
   ·exact R.sep L hL2 L' ((waq.1 hL').resolve_left e') hne u u' g hu hu' hg hg'
 ·by_cases e:L=.slot d
  ·subst e
   rw[hvd]at hu;cases hu;exact(hb g hg).2.1
  ·exact R.out L ((waq.1 hL).resolve_left e) u g hu hg
 ·rcases hg with hg|⟨L,hL,u,hu,hg⟩
  ·exact R.may g (.inl hg)
  ·by_cases e:L=.slot d
   ·subst e
    rw[hvd]at hu;cases hu;exact(hb g hg).1
   ·exact R.may g (.inr ⟨L,(waq.1 hL).resolve_left e,u,hu,hg⟩)
theorem yq1{S:S0}{dst:Option Nat}{f:FuncId}{args:List PV}{vs':List PV}{os:Bool}{bx':zae}{oc':List Loc}{v:Value}(Q:Post P w Fr β (st.ow.filter zad) vs' os bx' oc' v w' Fr' β')(hs:callBx (fun _ _ _ _=>some (vs',os,bx',oc')) st dst f args=some st')(hd:∀d,dst=some d->d<S.nt)
 (R:Rel P S.T S.base S.M S.w0 S.F0 S.nt st a w Fr β) (hl:Le S.sw S.sF S.sβ w Fr β) {K:Act->World->Prop} (hK:∀a' w',Rl P S st' a' w'->K a' w'):K (a.put dst v) w':=by
 unfold callBx at hs
 ·simp only[wau,war]at hs
  have hmem:∀L,L∈st.ow.filter zad->L∈st.ow/\zad L=true:=fun L h=>by simpa using h
  have hmay:∀g,zgy w β (st.ow.filter zad) g->S.base<=g\/S.M g:=fun g hg=>R.may g (hg.imp id fun⟨L,h1,v,h2,h3⟩=>⟨L,(hmem L h1).1,v,by rw[zcg (hmem L h1).2];exact h2,h3⟩)
  have hslot:∀L∈st.ow,zad L=false->∀u g,zay a w β L=some u->u.ownBlock=some g->g<w.heap.size/\¬zgy w β (st.ow.filter zad) g:=fun L hL hc u g hu hg=>by
   obtain⟨u',p,k1,k2,k3⟩:=R.own L hL;rw[hu]at k1;cases k1;refine⟨k3.lt hg,?_⟩;rintro(h|⟨L',h1,u',h2,h3⟩)
   ·exact R.out L hL u g hu hg h
   ·obtain⟨m1,m2⟩:=hmem L' h1
    rw[<-zcg (a:=a) m2]at h2;exact R.sep L hL L' m1 (fun e=>by rw[e,m2]at hc;cases hc) u u' g hu h2 hg h3
  have hsl:∀L,zad L=false->zay a w' β' L=zay a w β L:=fun L hc=>by
   cases L with
   |slot i=>rfl
   |cell b j=>cases hc
  have hocf:oc'.filter zad=oc':=wcd.2 Q.cells;rw[hocf]at hs;obtain⟨stm,hstm⟩:∃stm:St,stm={st with bx:=bx',ow:=oc'++st.ow.filter (fun L=>!zad L),al:=st.al.filter fun p=>!zad p.2}:=⟨_,rfl⟩;have hmow:∀L,L∈stm.ow->(L∈oc'/\zad L=true)\/(L∈st.ow/\zad L=false):=fun L hL=>by
   subst hstm;rcases wak.1 hL with h|h
   ·exact .inl ⟨h,Q.cells L h⟩
   ·exact .inr (by simpa using h)
  have hcw:∀L u,zad L=true->zay a w' β' L=some u->zay act0 w' β' L=some u:=fun L u hc h=>by rw[<-zcg (a:=a) hc];exact h
  have Rm:Rel P S.T S.base S.M S.w0 S.F0 S.nt stm a w' Fr' β':=by
   have hdf:Marks S.T S.base w' a.defers:=by
    obtain⟨Ds,d1,d2,d3⟩:=R.df;refine⟨Ds,d1,d2,fun D hD=>⟨(d3 D hD).1,?_⟩⟩;have hD2:=(d3 D hD).2;rw[(Q.rel.old D (wan.1 hD2).1 fun hm=>?_).1]
    ·exact hD2
    ·rcases hm with hm|⟨L,hL,u,hu,hub⟩
     ·obtain⟨ob,k1,k2⟩:=R.bx.at hm
      rw[hD2]at k1;cases k1;exact k2 _ rfl
     ·obtain⟨u',p,k1,_,n,cs,_,k2⟩:=R.own L (hmem L hL).1
      rw[zcg (hmem L hL).2,hu]at k1;cases k1;rcases k2 with rfl|⟨g',cap,cur,e,sz,rfl,k3,_⟩
      ·cases hub
      ·cases hub;rw[hD2]at k3;cases k3
   refine⟨fun i=>by subst hstm;exact(R.sl i).mono Q.le,R.nt,hdf,by subst hstm;exact Q.rel.bx,Q.rel.nd,fun L hL=>?_,fun L hL L' hL' hne u u' g hu hu' hg hg'=>?_,fun L hL u g hu hg=>?_,fun q hq=>?_,fun g hg=>?_,fun b hb hM=>?_,wac R.ge Q.rel.ge,Q.rel.os.trans R.os,Q.rel.tape.trans R.tape,Q.rel.output.trans R.output⟩
   ·rcases hmow L hL with⟨h1,h2⟩|⟨h1,h2⟩
    ·obtain⟨u,p,k1,k2,k3⟩:=Q.rel.own L h1
     refine⟨u,p,by rw[zcg h2];exact k1,?_,k3⟩;subst hstm;rw[zqu h2 (oc:=oc')];exact k2
    ·obtain⟨u,p,k1,k2,k3⟩:=R.own L h1
     refine⟨u,p,by rw[hsl L h2];exact k1,?_,k3.kept fun g hg=>?_⟩
     ·subst hstm
      cases L with
      |slot i=>exact k2
      |cell b j=>cases h2
     ·obtain⟨m1,m2⟩:=hslot L h1 h2 u g k1 hg
      exact Q.rel.old g m1 m2
   ·rcases hmow L hL with⟨h1,h2⟩|⟨h1,h2⟩
    ·rcases hmow L' hL' with⟨h1',h2'⟩|⟨h1',h2'⟩
     ·exact Q.rel.sep L h1 L' h1' hne u u' g (hcw L u h2 hu) (hcw L' u' h2' hu') hg hg'
     ·rw[hsl L' h2']at hu'
      obtain⟨m1,m2⟩:=hslot L' h1' h2' u' g hu' hg';rcases Q.rel.may g (.inr ⟨L,h1,u,hcw L u h2 hu,hg⟩)with h|h
      ·omega
      ·exact m2 h
    ·rw[hsl L h2]at hu
     obtain⟨m1,m2⟩:=hslot L h1 h2 u g hu hg;rcases hmow L' hL' with⟨h1',h2'⟩|⟨h1',h2'⟩
     ·rcases Q.rel.may g (.inr ⟨L',h1',u',hcw L' u' h2' hu',hg'⟩)with h|h
      ·omega
      ·exact m2 h
     ·rw[hsl L' h2']at hu'
      exact R.sep L h1 L' h1' hne u u' g hu hu' hg hg'
   ·rcases hmow L hL with⟨h1,h2⟩|⟨h1,h2⟩
    ·exact Q.rel.out L h1 u g (hcw L u h2 hu) hg
    ·rw[hsl L h2]at hu
     obtain⟨m1,m2⟩:=hslot L h1 h2 u g hu hg;intro hm;rcases Q.rel.may g (.inl hm)with h|h
     ·omega
     ·exact m2 h
   ·have hq':q∈st.al/\zad q.2=false:=by subst hstm;simpa using hq
    rw[hsl _ hq'.2];exact R.al q hq'.1
   ·rcases hg with hg|⟨L,hL,u,hu,hg⟩
    ·rcases Q.rel.may g (.inl hg)with h|h
     ·exact .inl (wac R.ge h)
     ·exact hmay g h
    ·rcases hmow L hL with⟨h1,h2⟩|⟨h1,h2⟩
     ·rcases Q.rel.may g (.inr ⟨L,h1,u,hcw L u h2 hu,hg⟩)with h|h
      ·exact .inl (wac R.ge h)
      ·exact hmay g h
     ·rw[hsl L h2]at hu
      exact R.may g (.inr ⟨L,h1,u,hu,hg⟩)
   ·obtain⟨m1,m2⟩:=Q.rel.old b (wad hb R.ge) fun h=>by
     rcases hmay b h with h|h
     ·omega
     ·exact hM h
    obtain⟨m3,m4⟩:=R.old b hb hM;exact⟨m1.trans m3,m2.trans m4⟩
  rw[<-hstm]at hs;cases dst with
  |none=>cases hs;exact hK _ _ ⟨Fr',β',Rm,hl.trans Q.le⟩
  |some d=>
   dsimp only at hs;have R2:=Rm.put (hd d rfl) Q.rd;have hda:d<a.tmps.size:=by rw[R.nt];exact hd d rfl
   split at hs
   ·rename_i hos
    cases hs;obtain⟨k1,k2⟩:=Q.own hos;refine hK _ _ ⟨Fr',β',R2.addOwn (d:=d) (by rw[zfl a d v d hda,if_pos rfl]) (by simp[St.put,za4]) k1 fun g hg=>?_,hl.trans Q.le⟩;obtain⟨m1,m2,m3⟩:=k2 g hg;refine⟨m1.elim (fun h=>.inl (wac R.ge h)) (fun h=>hmay g h),m2,fun L hL hne u hu=>?_⟩;obtain⟨n1,n2⟩:=zco.1 hL;rw[zet hda n2]at hu;rcases hmow L n1 with⟨h1,h2⟩|⟨h1,h2⟩
    ·exact m3 L h1 u (hcw L u h2 hu)
    ·intro e
     rw[hsl L h2]at hu;obtain⟨q1,q2⟩:=hslot L h1 h2 u g hu e;rcases m1 with h|h
     ·omega
     ·exact q2 h
   ·cases hs
    exact hK _ _ ⟨Fr',β',R2,hl.trans Q.le⟩
theorem z1e{Γ:Glob}(hcf:zcj P Γ cf){S:S0}{dst:Option Nat}{f:FuncId}{args:List PV}{vs:List Value}(hs:callBx cf st dst f args=some st')(hd:∀d,dst=some d->d<S.nt)
 (R:Rel P S.T S.base S.M S.w0 S.F0 S.nt st a w Fr β) (hl:Le S.sw S.sF S.sβ w Fr β) (hargs:Rds w Fr β args vs) (hg:Γ.G w) (hdis:∀g,Γ.D g->g<S.base/\¬S.M g) {K:Act->World->Prop} (hK:∀a' w',Rl P S st' a' w'->K a' w'):
 Enters P f vs w fun e w'=>∃v,e=.returned v/\K (a.put dst v) w':=by
 unfold callBx at hs
 ·have hs1:=hs
  obtain⟨⟨vs',os,bx',oc'⟩,hc,hs⟩:=qm hs;have hs0:callBx (fun _ _ _ _=>some (vs',os,bx',oc')) st dst f args=some st':=by unfold callBx;rw[hc]at hs1;exact hs1
  have hcall:=hcf f args st.bx (st.ow.filter zad) vs' os bx' oc' hc;have hmem:∀L,L∈st.ow.filter zad->L∈st.ow/\zad L=true:=fun L h=>by simpa using h
  have hmay:∀g,zgy w β (st.ow.filter zad) g->S.base<=g\/S.M g:=fun g hg=>R.may g (hg.imp id fun⟨L,h1,v,h2,h3⟩=>⟨L,(hmem L h1).1,v,by rw[zcg (hmem L h1).2];exact h2,h3⟩)
  refine(hcall w Fr β vs ⟨hg,hargs,R.boxes,fun L h=>(hmem L h).2,fun g hD hm=>?_⟩).mono fun e w' h=>?_
  ·obtain⟨h1,h2⟩:=hdis g hD
   rcases hmay g hm with h|h
   ·omega
   ·exact h2 h
  obtain⟨v,Fr',β',rfl,Q⟩:=h;exact⟨v,rfl,yq1 Q hs0 hd R hl hK⟩
theorem yq2{Γ:Glob}(hcf:zcj P Γ cf){S:S0}{dst:Option Nat}{f:FuncId}{args:List PV}{vs:List Value}(hs:callSt cf st dst f args=some st')(hd:∀d,dst=some d->d<S.nt)
 (R:Rel P S.T S.base S.M S.w0 S.F0 S.nt st a w Fr β) (hl:Le S.sw S.sF S.sβ w Fr β) (hargs:Rds w Fr β args vs) (hg:Γ.G w) (hdis:∀g,Γ.D g->g<S.base/\¬S.M g) {K:Act->World->Prop} (hK:∀a' w',Rl P S st' a' w'->K a' w'):
 Enters P f vs w fun e w'=>∃v,e=.returned v/\K (a.put dst v) w':=by
 unfold callSt at hs;split at hs
 case isFalse=>exact z1e hcf hs hd R hl hargs hg hdis hK
 rename_i hnp;obtain⟨⟨vs',os,bx',oc'⟩,hc,hs⟩:=qb hs;dsimp only at hs;split at hs
 case isFalse=>exact z1e hcf hs hd R hl hargs hg hdis hK
 rename_i hnp';have hcall:=hcf f args [] [] vs' os bx' oc' hc;refine(hcall w Fr [] vs ⟨hg,zih args vs hnp hargs,z3v w Fr,(fun L h=>by cases h),fun g _=>zkq⟩).mono fun e w' h=>?_
 obtain⟨v,Fr',β',rfl,Q⟩:=h;have hb:Below w.heap.size w w':=⟨Q.rel.os,Q.rel.tape,Q.rel.output,Q.rel.ge,fun k hk=>(Q.rel.old k hk zkq).1⟩;have hf:∀g,g<w.heap.size->Fr' g=Fr g:=fun g hg=>(Q.rel.old g hg zkq).2
 have hrd:Rd w' Fr' β (zef vs') v:=z9h _ _ (z69 vs' hnp') Q.rd;obtain⟨R',hl'⟩:=R.grow hb hf;refine⟨v,rfl,?_⟩;cases dst with
 |none=>cases hs;exact hK _ _ ⟨Fr',β,R',hl.trans hl'⟩
 |some d=>
  dsimp only at hs;split at hs
  ·rename_i hos
   cases hs;obtain⟨k1,k2⟩:=Q.own hos;exact hK _ _ ⟨Fr',β,R.putOwn hb hf (hd d rfl) hrd k1 (fun g hg=>((k2 g hg).1).resolve_right zkq),hl.trans hl'⟩
  ·cases hs
   exact hK _ _ ⟨Fr',β,R'.put (hd d rfl) hrd,hl.trans hl'⟩
theorem zpz{l:Nat}{o:Obj}{b j:Nat}(h:b≠l):(w.putObj l o).cell? ⟨b,j,none⟩=w.cell? ⟨b,j,none⟩:=by
 simp only[World.cell?,World.putObj_heap_other h]
theorem Rel.setLp(R:Rel P T base M w0 F0 nt st a w Fr β){b g:Nat}{f k f' k':Nat}{s s':LpS}{live live':List Nat}{snap snap':List PV}{r':Loop}{e0:Nat}(hb:st.bx[b]?=some (e0,[.lp f k s live snap]))(hg:β[b]?=some g)
 (h:Le w Fr β (w.putObj g (.loop r')) Fr β->LpR P (w.putObj g (.loop r')) Fr β f' k' s' live' snap' g):
 Rel P T base M w0 F0 nt {st with bx:=st.bx.set b (0,[.lp f' k' s' live' snap'])} a (w.putObj g (.loop r')) Fr β/\Le w Fr β (w.putObj g (.loop r')) Fr β:=by
 have hgm:g∈β:=wao hg;have hgl:g<w.heap.size:=R.bx.lt hgm;obtain⟨g0,b1,hF,hat⟩:=R.bx.2 b _ hb;rw[hg]at b1;cases b1;have hloop:∃r,w.heap[g]?=some (.loop r):=by
  rcases hat with⟨vs,e,_,h2,_,_⟩|⟨_,_,_,_,_,_,r,h1,_⟩
  ·simp only[Rds]at h2;obtain⟨_,_,_,h2,_⟩:=h2;simp only[Rd]at h2
  ·exact⟨r,h1⟩
 obtain⟨r,hr⟩:=hloop;have hoth:∀k,k≠g->(w.putObj g (.loop r')).heap[k]?=w.heap[k]?:=fun k hk=>World.putObj_heap_other hk
 have hl:Le w Fr β (w.putObj g (.loop r')) Fr β:=⟨by simp,fun _ _=>wab _,fun k j hk hj=>zpz fun e=>by rw[e,hF]at hj;omega,fun _ _ h=>h,fun k x hk=>by
  by_cases e:k=g
  ·subst e;exact⟨r',World.putObj_heap_same hgl⟩
  ·exact⟨x,(hoth k e).trans hk⟩⟩
 have hval:∀L v,zay a w β L=some v->zay a (w.putObj g (.loop r')) β L=some v:=fun L v hv=>by
  cases L with
  |slot i=>exact hv
  |cell b' j=>
   simp only[zay]at hv⊢;obtain⟨g',h1,h2⟩:=qb hv;rw[h1,wat,zpz]
   ·exact h2
   ·rintro rfl;simp[World.cell?,hr]at h2
 have hpv:∀L∈st.ow,∀v,zay a w β L=some v->∀p,pvAt st L=some p->pvAt {st with bx:=st.bx.set b (0,[.lp f' k' s' live' snap'])} L=some p:=fun L _ v hv p hp=>by
  cases L with
  |slot i=>exact hp
  |cell b' j=>
   have hne:b'≠b:=by
    rintro rfl;simp only[zay,hg,wat]at hv;simp[World.cell?,hr]at hv
   simp only[pvAt]at hp⊢;rw[wbq (was hne)];exact hp
 refine⟨R.next hl (fun i=>(R.sl i).mono hl) R.nt rfl ⟨by simp[R.bx.1],fun b' cs' hcs'=>?_⟩ R.nd (fun g h=>.inl h) some (fun L hL=>?_) (fun L _ L' _ hne L0 h h'=>hne (by cases h;cases h';rfl)) (fun L _ L' _ _ h=>by cases h) (fun q hq=>hval _ _ (R.al q hq)) (fun k _ hk _=>⟨hoth k fun e=>hk (e▸hgm),rfl⟩) rfl rfl rfl,hl⟩
 ·dsimp only at hcs'
  by_cases he:b'=b
  ·subst he
   rw[wbp (qg hb).1]at hcs';cases hcs';exact⟨g,hg,hF,.inr ⟨_,_,_,_,_,rfl,h hl⟩⟩
  ·rw[wbq (was he)]at hcs'
   obtain⟨g',k1,k5,k2⟩:=R.bx.2 b' cs' hcs';have hne:g'≠g:=fun e=>by
    subst e;exact he ((List.getElem?_inj (qg k1).1 R.nd).1 (k1.trans hg.symm))
   exact⟨g',k1,k5,k2.kept hl (hoth g' hne)⟩
 ·obtain⟨u,q,k1,k2,k3⟩:=R.own L hL
  refine⟨u,q,hval L u k1,hpv L hL u k1 q k2,k3.kept fun k hk=>⟨hoth k fun e=>?_,rfl⟩,fun k hk=>.inr ⟨L,hL,rfl,u,k1,hk⟩⟩;exact R.out L hL u k k1 hk (e▸hgm)
theorem Rel.takeMark{D:Nat}{Ds0:List Nat}(R:Rel P T base M w0 F0 nt st a w Fr β)(ha:a.defers=mark D::(Ds0.map mark++T)):
 w.heap[D]?=some (.deferred (some []))/\Rel P T base M w0 F0 nt st {a with defers:=Ds0.map mark++T} (w.putObj D (.deferred none)) Fr β/\Le w Fr β (w.putObj D (.deferred none)) Fr β:=by
 obtain⟨Ds,d1,d2,d3⟩:=R.df;rw[ha]at d2;obtain rfl:D::Ds0=Ds:=zvs d2;obtain⟨ds,hds⟩:∃ds,Ds0.map mark++T=ds:=⟨_,rfl⟩;rw[hds];have e2:=hds.symm
 ·have Ds:=Ds0
  obtain⟨hbD,hD⟩:=d3 D (by simp);have hDl:=(wan.1 hD).1;have hoth:∀k,k≠D->(w.putObj D (.deferred none)).heap[k]?=w.heap[k]?:=fun k hk=>World.putObj_heap_other hk
  have hβ:∀g∈β,g≠D:=fun g hg e=>by
   obtain⟨o,k1,k2⟩:=R.bx.at hg;rw[e,hD]at k1;cases k1;exact k2 _ rfl
  have hcell:∀g j,(w.putObj D (.deferred none)).cell? ⟨g,j,none⟩=w.cell? ⟨g,j,none⟩:=fun g j=>by
   by_cases e:g=D
   ·subst e
    simp[World.cell?,hD,World.putObj_heap_same hDl]
   ·exact zpz e
  have hl:Le w Fr β (w.putObj D (.deferred none)) Fr β:=⟨by simp,fun _ _=>wab _,fun k j _ _=>hcell k j,fun _ _ h=>h,fun k x hk=>⟨x,(hoth k fun e=>by rw[e,hD]at hk;cases hk).trans hk⟩⟩;have hval:∀L,zay {a with defers:=ds} (w.putObj D (.deferred none)) β L=zay a w β L:=fun L=>by
   cases L with
   |slot i=>rfl
   |cell b j=>
    simp only[zay];cases β[b]? with
    |none=>rfl
    |some g=>exact hcell g j
  refine⟨hD,⟨fun i=>(R.sl i).mono hl,R.nt,⟨Ds0,(List.nodup_cons.1 d1).2,e2,fun D' hD'=>⟨(d3 D' (by simp[hD'])).1,(hoth D' fun e=>?_).trans (d3 D' (by simp[hD'])).2⟩⟩,R.bx.kept hl fun g hg=>⟨hoth g (hβ g hg),rfl⟩,R.nd,fun L hL=>?_,fun L hL L' hL' hne v v' g=>by rw[hval,hval];exact R.sep L hL L' hL' hne v v' g,fun L hL v g=>by rw[hval];exact R.out L hL v g,fun q hq=>by rw[hval];exact R.al q hq,
   fun g hg=>R.may g (hg.imp id fun⟨L,hL,v,k1,k2⟩=>⟨L,hL,v,by rw[<-hval];exact k1,k2⟩),fun b hb hM=>?_,by simpa using R.ge,R.os,R.tape,R.output⟩,hl⟩
  ·exact(List.nodup_cons.1 d1).1 (e▸hD')
  ·obtain⟨v,p,k1,k2,k3⟩:=R.own L hL
   refine⟨v,p,by rw[hval];exact k1,k2,k3.kept fun g hg=>⟨hoth g fun e=>?_,rfl⟩⟩;obtain⟨n,cs,_,k4⟩:=k3;rcases k4 with rfl|⟨g',cap,cur,e',sz,rfl,k5,_⟩
   ·cases hg
   ·cases hg;have e9:g'=D:=e;rw[e9,hD]at k5;cases k5
  ·rw[hoth b (by omega)];exact R.old b hb hM
end
end Nun
namespace Nun
open Go Go.RowKit
def yq3(P:Program)(ali:List Nat)(o:Oper):Option COp:=match o.dst,o.op with
 |some d,.move (.tmp s)=>if d∈ali then some (.mvA s)else none
 |some d,.load t x=>if d∈ali/\zdv P t=some false/\szOf P t=some 1 then(coX x).map .loadA else none
 |_,_=>none
def z3w(P:Program):Op->Option COp
 | .call {callee:=.value (.func f),args,.. }=>if f=yldF then none else(coXs args).map fun xs=>.call f xs
 | .call {callee:=.value (.tmp t),args,.. }=>(coXs args).map fun xs=>.callv (.t t) xs
 |_=>none
def ywr:COp:=.nilc (.c .unk)
def coOp(P:Program)(ali:List Nat)(o:Oper):Option COp:=match yq3 P ali o with
 |some c=>some c
 |none=>match zcw P o.op with
  |some c=>some c
  |none=>match yby P o.op with
   |some c=>some c
   |none=>match z3w P o.op with
    |some c=>some c
    |none=>some ywr
def coG(ops:Array Oper):Option (Nat×Bool)->Option (Option (Nat×Bool))
 |none=>some none
 |some (j,want)=>((ops[j]?).bind (·.dst)).map fun s=>some (s,want)
def zmi(P:Program)(nt:Nat)(ops:Array Oper)(ali:List Nat)(o:Oper):Option COper:=
 if o.dst.all (·<nt)then(coOp P ali o).bind fun c=>(coG ops o.guard).map fun g=>⟨o.dst,g,c⟩else none
section
variable {P:Program} {w w':World} {r:Option Nat} {Fr Fr':Nat→Nat} {β β':List Nat} {T:List Deferred} {base nt:Nat} {M:Nat→Prop} {w0:World} {F0:Nat→Nat} {st st':St} {a a':Act} {cf:Callee} {Γ:Glob} {S:S0}
structure Good (Γ:Glob) (S:S0):Prop where
 g:Γ.G S.w0
 dis:∀ g,Γ.D g→g<S.base∧¬ S.M g
theorem Good.at(h:Good Γ S)(R:Rel P S.T S.base S.M S.w0 S.F0 S.nt st a w Fr β):Γ.G w:=Γ.keep _ _ h.g fun g hg=>(R.old g (h.dis g hg).1 (h.dis g hg).2).1
theorem ybz{o:Oper}{t:TypeId}{x:Operand}{y:X}(ho:o.op=.load t x)(hg:zdv P t=some false)(hn:szOf P t=some 1)(hy:coX x=some y)(hs:zaa cf st o.dst (.loadA y)=some st')(hd:∀d,o.dst=some d->d<S.nt)(hr:Rl P S st a w){K:Act->World->Prop}{Q:Exit->Act->World->Prop}
 (hK:∀a' w',Rl P S st' a' w'->K a' w'):o.wpIn (fw r) 0 P a w K Q:=by
 obtain⟨Fr,β,R,hl⟩:=hr;simp only[zaa]at hs;obtain⟨d,hdst,hs2⟩:=qb hs;clear hs;have hx:=zbo R.sl hy;split at hs2
 ·rename_i b off e1
  rw[e1]at hx;simp only[Rd]at hx;obtain⟨gb,hgb,hx⟩:=hx;obtain⟨p,hp,rfl⟩:=qm hs2;obtain⟨cs,hcs,hp⟩:=qb hp;obtain⟨hcs,_,g',vs,e,b1,b2,b3,b4,b5,_⟩:=R.bx.cells hcs;rw[hgb]at b1;cases b1;obtain⟨v,k1,k2⟩:=b3.get off p hp;have hcell:w.cell? ⟨gb,off,none⟩=some v:=by
   rw[cell_of_row _ _ _ _ _ _ b2];simpa using k1
  have hrun:(execOp a.eval o).run P w=.ok (.value v) w:=by
   have h9:=zlh (vs:=[v]) hg hn rfl (w:=w) (b:=gb) (o:=off) (fun j u hj=>by
    match j,hj with
    |0,hj=>simp at hj;subst hj;exact hcell) (.inr rfl)
   unfold execOp;rw[ho];show(do pure (Next.value (<-Instr.loadAt t (a.eval x))):Sem Next).run P w=_;simp only[Instr.loadAt,wav,hx,Instr.sureAddr,wbg,waw,h9];rfl
  refine zc9 hrun ?_;rw[hdst];refine hK _ _ ⟨Fr,β,R.putAl (hd d hdst) k2 rfl ?_,hl⟩;simp only[zay,hgb,wat];exact hcell
 ·cases hs2
theorem yb0{o:Oper}{t:TypeId}{x:Operand}{y:X}(ho:o.op=.load t x)(hg:zdv P t=some false)(hn:szOf P t=some 1)(hy:coX x=some y)(hs:zaa cf st o.dst (.loadM y)=some st')(hd:∀d,o.dst=some d->d<S.nt)(hr:Rl P S st a w){K:Act->World->Prop}{Q:Exit->Act->World->Prop}
 (hK:∀a' w',Rl P S st' a' w'->K a' w'):o.wpIn (fw r) 0 P a w K Q:=by
 obtain⟨Fr,β,R,hl⟩:=hr;simp only[zaa]at hs;obtain⟨d,hdst,hs2⟩:=qb hs;clear hs;have hx:=zbo R.sl hy;split at hs2
 case h_2=>cases hs2
 rename_i b off e1;rw[e1]at hx;simp only[Rd]at hx;obtain⟨gb,hgb,hx⟩:=hx;obtain⟨p,hp,hs2⟩:=qb hs2;split at hs2
 case isFalse=>cases hs2
 rename_i hown;cases hs2;obtain⟨cs,hcs,hp⟩:=qb hp;obtain⟨hcs,_,g',vs,e,b1,b2,b3,b4,b5,_⟩:=R.bx.cells hcs;rw[hgb]at b1;cases b1;obtain⟨v,k1,k2⟩:=b3.get off p hp;have hcell:w.cell? ⟨gb,off,none⟩=some v:=by
  rw[cell_of_row _ _ _ _ _ _ b2];simpa using k1
 have hrun:(execOp a.eval o).run P w=.ok (.value v) w:=by
  have h9:=zlh (vs:=[v]) hg hn rfl (w:=w) (b:=gb) (o:=off) (fun j u hj=>by
   match j,hj with
   |0,hj=>simp at hj;subst hj;exact hcell) (.inr rfl)
  unfold execOp;rw[ho];show(do pure (Next.value (<-Instr.loadAt t (a.eval x))):Sem Next).run P w=_;simp only[Instr.loadAt,wav,hx,Instr.sureAddr,wbg,waw,h9];rfl
 refine zc9 hrun ?_;rw[hdst];have hdn:=hd d hdst;have hda:d<a.tmps.size:=by rw[R.nt];exact hdn
 have R2:=R.put hdn (d:=d) k2;have hvc:zay a w β (.cell b off)=some v:=by simp only[zay,hgb,wat];exact hcell
 have hvp:∀L,L∈zac d st.ow->zay (a.put (some d) v) w β L=zay a w β L:=fun L hL=>zet hda (zco.1 hL).2
 have R3:Rel P S.T S.base S.M S.w0 S.F0 S.nt {(st.put d p)with ow:=(zac d st.ow).filter (·≠.cell b off),al:=[]} (a.put (some d) v) w Fr β:=
  ⟨R2.sl,R2.nt,R2.df,R2.bx,R2.nd,fun L hL=>R2.own L (wbw.1 hL).1,fun L hL L' hL'=>R2.sep L (wbw.1 hL).1 L' (wbw.1 hL').1,fun L hL=>R2.out L (wbw.1 hL).1,(fun q hq=>by cases hq),fun g hg=>R2.may g (hg.imp id fun⟨L,hL,h⟩=>⟨L,(wbw.1 hL).1,h⟩),R2.old,R2.ge,R2.os,R2.tape,R2.output⟩
 obtain⟨v',p',m1,m2,m3⟩:=R.own _ hown;rw[hvc]at m1;cases m1;simp only[pvAt,hcs,wat,hp,war]at m2;subst m2;refine hK _ _ ⟨Fr,β,R3.addOwn (d:=d) (by rw[zfl a d v d hda,if_pos rfl]) (by simp[St.put,za4]) m3 fun g hgo=>?_,hl⟩;refine⟨R.may g (.inr ⟨_,hown,_,hvc,hgo⟩),R.out _ hown _ g hvc hgo,fun L hL hne u hu e=>?_⟩;obtain⟨n1,n2⟩:=wbw.1 hL;have n3:L≠.cell b off:=by simpa using n2
 rw[hvp L n1]at hu;exact R.sep _ hown L (zco.1 n1).1 (was n3) _ u g hvc hu hgo e
theorem ykd{o:Oper}{s:Nat}(ho:o.op=.move (.tmp s))(hs:zaa cf st o.dst (.mvA s)=some st')(hd:∀d,o.dst=some d->d<S.nt)(hr:Rl P S st a w){K:Act->World->Prop}{Q:Exit->Act->World->Prop}
 (hK:∀a' w',Rl P S st' a' w'->K a' w'):o.wpIn (fw r) 0 P a w K Q:=by
 obtain⟨Fr,β,R,hl⟩:=hr;simp only[zaa]at hs;obtain⟨d,hdst,hs2⟩:=qb hs;clear hs;split at hs2
 ·cases hs2
 ·rename_i hsd
  cases hs2;have hrun:(execOp a.eval o).run P w=.ok (.value (a.tmps.getD s undef)) w:=by
   unfold execOp;rw[ho];rfl
  refine zc9 hrun ?_;rw[hdst];exact hK _ _ ⟨Fr,β,R.putAl (hd d hdst) (R.sl s) (by simp[ment];exact fun e=>hsd e) rfl,hl⟩
theorem yke{a:Act}{sl:List (Nat×PV)}(h:∀i,Rd w Fr β (look sl i) (a.tmps.getD i undef)){l:Array Operand}{ys:List X}(hx:coXs l=some ys):Rds w Fr β (ys.map (·.ev sl)) (l.map a.eval).toList:=by
 rw[Array.toList_map];exact z67 h hx
theorem z3x:∀{ys:List X}{sl:List (Nat×PV)}{vs:List Value},Rds w Fr β (ys.map (·.ev sl)) vs->Rds w Fr β (ys.map fun x=>(x.ev sl).weak) vs
 |[],_,_,h=>h
 |y::ys,sl,vs,h=>by
  simp only[wax,Rds]at h⊢;obtain⟨v,r,h1,h2,h3⟩:=h;exact⟨v,r,h1,Rd.weak _ _ h2,z3x h3⟩
theorem zvv{a:Act}{sl:List (Nat×PV)}(h:∀i,Rd w Fr β (look sl i) (a.tmps.getD i undef)){l:Array Operand}{ys:List X}(hx:coXs l=some ys):Rds w Fr β (ys.map fun x=>(x.ev sl).weak) (l.map a.eval).toList:=z3x (yke h hx)
theorem yea(hcf:zcj P Γ cf)(hS:Good Γ S){o:Oper}{c:COp}(hc:z3w P o.op=some c)(hs:zaa cf st o.dst c=some st')(hd:∀d,o.dst=some d->d<S.nt)(hr:Rl P S st a w){K:Act->World->Prop}{Q:Exit->Act->World->Prop}
 (hK:∀a' w',Rl P S st' a' w'->K a' w'):o.wpIn (fw r) 0 P a w K Q:=by
 obtain⟨Fr,β,R,hl⟩:=hr;obtain⟨dst,op,ty,pos,after,guard⟩:=o;dsimp only at hc hs hd;have fin:∀(f:FuncId)(args:List PV)(vs:List Value),f≠yldF->callSt cf st dst f args=some st'->Rds w Fr β args vs->(execOp a.eval ⟨dst,op,ty,pos,after,guard⟩).run P w=(callFunc f vs.toArray).run P w->Oper.wpIn (fw r) 0 P ⟨dst,op,ty,pos,after,guard⟩ a w K Q:=fun f args vs hne h1 h2 h3=>by
  have hen:=yq2 hcf h1 hd R hl h2 (hS.at R) hS.dis hK;unfold Enters at hen;rw[if_neg hne]at hen;obtain⟨he,hcall⟩:=hen;have hx:(execOp a.eval ⟨dst,op,ty,pos,after,guard⟩).run P w=.ok (.enter f vs.toArray) w:=by rw[h3,zvu he]
  refine⟨fun _ _=>trivial,?_⟩;rw[Oper.semAt_eq _ _ _ fun c hc=>by obtain⟨d,hd⟩:=zu3 hc hx;cases hd];rw[hx];refine⟨(fun h=>by cases h),z9g.2 (hcall.mono fun e w' h=>?_)⟩;obtain⟨v,rfl,h⟩:=h;exact h
 cases op with
 |call cl=>
  obtain⟨callee,args,ats⟩:=cl;cases callee with
  |invoke r m=>cases hc
  |builtin b=>cases hc
  |value f=>
   cases f with
   |const v=>cases hc
   |global g=>cases hc
   |func f=>
    simp only[z3w]at hc;split at hc
    ·cases hc
    rename_i hne;obtain⟨xs,hx,rfl⟩:=qm hc;refine fin f _ (args.map a.eval).toList hne hs (zvv R.sl hx) ?_;show(do let d <-resolve a.eval ⟨.value (.func f),args,ats⟩ ty;invoke d.target d.args:Sem Next).run P w=_;simp only[resolve,Deferred.ofValue,Act.eval,wav,wbg,waw,invoke];congr 2;apply wba;simp
   |tmp t=>
    obtain⟨xs,hx,rfl⟩:=qm hc;simp only[zaa]at hs;split at hs
    ·rename_i f caps e1
     split at hs
     ·cases hs
     rename_i hne;have hf:=R.sl t;have e1':look st.sl t=.clo f caps:=e1;rw[e1']at hf;simp only[Rd]at hf;obtain⟨cvs,hfv,hcr⟩:=hf;refine fin f _ ((args.map a.eval).toList++cvs) hne hs ((zvv R.sl hx).append hcr) ?_;show(do let d <-resolve a.eval ⟨.value (.tmp t),args,ats⟩ ty;invoke d.target d.args:Sem Next).run P w=_;have:a.eval (.tmp t)=.func (.func f) #[] cvs.toArray:=hfv;simp only[resolve,this,Deferred.ofValue,wav,wbg,waw,invoke];congr 2;apply wba;simp
    ·rename_i b e1
     have hf:=R.sl t;have e1':look st.sl t=.yld b:=e1;rw[e1']at hf;have hf0:=hf;simp only[Rd]at hf;obtain⟨g,hg,hfv⟩:=hf;have hargs:Rds w Fr β (.yld b::xs.map fun x=>(x.ev st.sl).weak) (.func (.yield g) #[] #[]::(args.map a.eval).toList):=by
      simp only[Rds];exact⟨_,_,rfl,by simp only[Rd];exact⟨g,hg,rfl⟩,zvv R.sl hx⟩
     have hen:=z1e hcf hs hd R hl hargs (hS.at R) hS.dis hK;unfold Enters at hen;rw[if_pos rfl]at hen;obtain⟨l,az,rc,h1,h2,h3,h4⟩:=hen;cases h1;have hx:(execOp a.eval ⟨dst,.call ⟨.value (.tmp t),args,ats⟩,ty,pos,after,guard⟩).run P w=.ok (.round g rc.fn ((rc.params.zip (args.map a.eval).toList.toArray).foldl (fun tmps(t,a)=>tmps.setIfInBounds t a) rc.tmps) rc.assign rc.body) w:=by
      rw[<-run_yield h2 (by simpa using h3)];show(do let d <-resolve a.eval ⟨.value (.tmp t),args,ats⟩ ty;invoke d.target d.args:Sem Next).run P w=_;have:a.eval (.tmp t)=.func (.yield g) #[] #[]:=hfv;simp only[resolve,this,Deferred.ofValue,wav,wbg,waw,invoke];congr 2;apply wba;simp
     refine⟨fun _ _=>trivial,?_⟩;rw[Oper.semAt_eq _ _ _ fun c hc=>by obtain⟨d,hd⟩:=zu3 hc hx;cases hd];rw[hx];refine⟨(fun h=>by cases h),RoundIn.mono (R:=fun e w'=>∃v,e=.returned v/\K (a.put dst v) w') h4 fun e w' h=>?_⟩;obtain⟨v,rfl,h⟩:=h;exact h
    ·cases hs
 |_=>cases hc
theorem yq4(hcf:zcj P Γ cf)(hS:Good Γ S){ali:List Nat}{o:Oper}{c:COp}(hc:coOp P ali o=some c)(hs:zaa cf st o.dst c=some st')(hd:∀d,o.dst=some d->d<S.nt)(hr:Rl P S st a w){K:Act->World->Prop}{Q:Exit->Act->World->Prop}
 (hK:∀a' w',Rl P S st' a' w'->K a' w'):o.wpIn (fw r) 0 P a w K Q:=by
 unfold coOp at hc;split at hc
 ·rename_i c' h1
  cases hc;unfold yq3 at h1;split at h1
  ·rename_i d s e1 e2
   split at h1
   ·cases h1;exact ykd e2 hs hd hr hK
   ·cases h1
  ·rename_i d t x e1 e2
   split at h1
   ·rename_i hcond
    obtain⟨y,hy,rfl⟩:=qm h1;exact ybz e2 hcond.2.1 hcond.2.2 hy hs hd hr hK
   ·cases h1
  ·cases h1
 ·split at hc
  ·rename_i c' h1;cases hc;exact zvt h1 hs hd hr hK
  ·split at hc
   ·rename_i c' h1;cases hc;exact ykc h1 hs hd hr hK
   ·split at hc
    ·rename_i c' h1;cases hc;exact yea hcf hS h1 hs hd hr hK
    ·cases hc;simp[zaa,ywr,zao,X.ev]at hs
theorem z1f{ops:Array Oper}{o:Oper}{g:Option (Nat×Bool)}{b:Bool}(hg:coG ops o.guard=some g)(hb:zej st g=some b)(hr:Rl P S st a w):Region.wanted o (yielded ops a.tmps)=b:=by
 obtain⟨Fr,β,R,hl⟩:=hr;unfold coG at hg;unfold Region.wanted;split at hg
 ·rename_i e;cases hg;rw[e];cases hb;rfl
 ·rename_i j want e
  rw[e];obtain⟨s,hs,rfl⟩:=qm hg;dsimp only;have hx:=R.sl s;unfold zej at hb;dsimp only at hb;have hy:yielded ops a.tmps j=match a.tmps[s]? with|some (.bool b)=>some b|_=>none:=by
   unfold yielded;rw[hs];rfl
  split at hb
  ·rename_i t e1
   cases hb;rw[e1]at hx;obtain⟨hx,_⟩:=zbc hx;have:a.tmps[s]?=some (.bool t):=by
    rw[wap]at hx;cases h:a.tmps[s]? with
    |none=>rw[h]at hx;cases hx
    |some u=>rw[h]at hx;simp at hx;rw[hx]
   rw[hy,this];cases t<;>cases want<;>rfl
  ·rename_i e1
   cases hb;rw[e1]at hx;simp only[Rd,Rds]at hx;obtain⟨vs,hx,rfl⟩:=hx;rw[hy];rw[wap]at hx;cases h:a.tmps[s]? with
   |none=>rfl
   |some u=>rw[h]at hx;simp at hx;rw[hx];rfl
  ·cases hb
theorem z3y(hcf:zcj P Γ cf)(hS:Good Γ S){ops:Array Oper}{ali:List Nat}{o:Oper}{c:COper}(hc:zmi P S.nt ops ali o=some c)(hs:stepG cf st c=some st')(hr:Rl P S st a w){K:Act->World->Prop}{Q:Exit->Act->World->Prop}
 (hK:∀a' w',Rl P S st' a' w'->K a' w'):if Region.wanted o (yielded ops a.tmps)then o.wpIn (fw r) 0 P a w K Q else(∀f,o.about P w a.eval=some f->(fw r).fn f)/\K (a.put o.dst undef) w:=by
 unfold zmi at hc;split at hc
 case isFalse=>cases hc
 rename_i hd;obtain⟨cc,h1,hc⟩:=qb hc;obtain⟨g,h2,rfl⟩:=qm hc;unfold stepG at hs;obtain⟨b,hb,hs⟩:=qb hs;rw[z1f h2 hb hr];have hd':∀d,o.dst=some d->d<S.nt:=fun d h=>by rw[h]at hd;simpa using hd
 cases b with
 |true=>exact yq4 hcf hS h1 hs hd' hr hK
 |false=>
  dsimp only at hs;simp only[wbf,if_false]at hs⊢;cases hs;obtain⟨Fr,β,R,hl⟩:=hr;refine⟨fun _ _=>trivial,hK _ _ ?_⟩;cases hdst:o.dst with
  |none=>exact⟨Fr,β,R,hl⟩
  |some d=>exact⟨Fr,β,R.put (hd' d hdst) (by simp only[Rd,Rds];exact⟨[],rfl,rfl⟩),hl⟩
def cpO(o:Oper)(c:COper):COper:=match o.op with
 | .assign x=>(match coX x with|some y=>{c with op:=.mv y}|none=>c)
 |_=>c
def CoR(P:Program)(nt:Nat)(ops:Array Oper)(ali:List Nat)(o:Oper)(c:COper):Prop:=
 zmi P nt ops ali o=some c\/(∃y,c.op=.loadM y/\zmi P nt ops ali o=some {c with op:=.loadA y})\/∃x y,o.op=.assign x/\coX x=some y/\c.op=.mv y/\c.dst=o.dst/\coG ops o.guard=some c.g/\o.dst.all (·<nt)=true
theorem yws{nt:Nat}{ops:Array Oper}{ali:List Nat}{o:Oper}{c:COper}(h:zmi P nt ops ali o=some c):CoR P nt ops ali o (cpO o c):=by
 unfold cpO;split
 ·rename_i x e
  split
  ·rename_i y e2
   right;unfold zmi at h;split at h
   ·rename_i hd
    obtain⟨cc,h1,h⟩:=qb h;obtain⟨g,h2,rfl⟩:=qm h;right;exact⟨x,y,e,e2,rfl,rfl,h2,hd⟩
   ·cases h
  ·exact .inl h
 ·exact .inl h
theorem yeb{op:Op}{y:X}(h1:yby P op=some (.loadA y)):False:=by
 unfold yby at h1;split at h1
 ·obtain⟨y,_,h⟩:=qm h1;cases h
 ·obtain⟨_,_,h1⟩:=qb h1
  obtain⟨y,_,h⟩:=qm h1;cases h
 ·split at h1
  ·obtain⟨_,_,h1⟩:=qb h1
   split at h1
   ·obtain⟨_,_,h1⟩:=qb h1
    split at h1
    ·obtain⟨y,_,h⟩:=qm h1;cases h
    ·cases h1
   ·cases h1
  ·cases h1
 ·obtain⟨_,_,h1⟩:=qb h1
  split at h1
  ·split at h1<;>cases h1
  ·cases h1
 ·obtain⟨_,_,h1⟩:=qb h1
  obtain⟨_,_,h1⟩:=qb h1;split at h1
  ·obtain⟨y,_,h⟩:=qm h1;cases h
  ·cases h1
 ·obtain⟨_,_,h1⟩:=qb h1
  obtain⟨_,_,h1⟩:=qb h1;obtain⟨_,_,h1⟩:=qb h1;split at h1<;>cases h1
 ·split at h1
  ·split at h1
   ·obtain⟨_,_,h1⟩:=qb h1
    split at h1
    ·obtain⟨_,_,h1⟩:=qb h1
     obtain⟨y,_,h⟩:=qm h1;cases h
    ·cases h1
   ·obtain⟨_,_,h1⟩:=qb h1
    split at h1
    ·obtain⟨_,_,h1⟩:=qb h1
     obtain⟨y,_,h⟩:=qm h1;cases h
    ·cases h1
   ·cases h1
  ·cases h1
 ·cases h1
theorem yb1{op:Op}{y:X}(h1:z3w P op=some (.loadA y)):False:=by
 unfold z3w at h1;split at h1
 ·split at h1
  ·cases h1
  ·obtain⟨_,_,h⟩:=qm h1;cases h
 ·obtain⟨_,_,h⟩:=qm h1;cases h
 ·cases h1
theorem zod(hcf:zcj P Γ cf)(hS:Good Γ S){ops:Array Oper}{ali:List Nat}{o:Oper}{c:COper}(hc:CoR P S.nt ops ali o c)(hs:stepG cf st c=some st')(hr:Rl P S st a w){K:Act->World->Prop}{Q:Exit->Act->World->Prop}
 (hK:∀a' w',Rl P S st' a' w'->K a' w'):if Region.wanted o (yielded ops a.tmps)then o.wpIn (fw r) 0 P a w K Q else(∀f,o.about P w a.eval=some f->(fw r).fn f)/\K (a.put o.dst undef) w:=by
 rcases hc with hc|⟨y,h1,hc⟩|⟨x,y,h1,h2,h3,h4,h5,hd⟩
 ·exact z3y hcf hS hc hs hr hK
 ·obtain⟨dst,g',op⟩:=c
  dsimp only at h1;subst h1;unfold zmi at hc;split at hc
  case isFalse=>cases hc
  rename_i hd;obtain⟨cc,h2,hc⟩:=qb hc;obtain⟨g,h3,hc⟩:=qm hc;simp only[COper.mk.injEq]at hc;obtain⟨rfl,rfl,rfl⟩:=hc;unfold stepG at hs;obtain⟨b,hb,hs⟩:=qb hs;dsimp only at hb hs;rw[z1f h3 hb hr];have hd':∀d,o.dst=some d->d<S.nt:=fun d h=>by rw[h]at hd;simpa using hd
  cases b with
  |true=>
   simp only[if_true]at hs⊢;unfold coOp at h2;split at h2
   ·rename_i c' h4
    cases h2;unfold yq3 at h4;split at h4
    ·split at h4
     ·cases h4
     ·cases h4
    ·rename_i d t x e1 e2
     split at h4
     ·rename_i hcond
      obtain⟨z,hz,h5⟩:=qm h4;cases h5;exact yb0 e2 hcond.2.1 hcond.2.2 hz hs hd' hr hK
     ·cases h4
    ·cases h4
   ·exact absurd h2 (by
     split
     ·rename_i c' h4
      intro e;cases e;rcases zpa h4 with⟨x,hx⟩|⟨x,hx⟩|hx
      ·rw[hx]at h4;obtain⟨_,_,h5⟩:=qm h4;cases h5
      ·rw[hx]at h4;obtain⟨_,_,h5⟩:=qm h4;cases h5
      ·cases hx
     ·split
      ·rename_i c' h4
       intro e;cases e;exact yeb h4
      ·split
       ·rename_i c' h4
        intro e;cases e;exact yb1 h4
       ·intro e;cases e)
  |false=>
   simp only[wbf,if_false]at hs⊢;cases hs;obtain⟨Fr,β,R,hl⟩:=hr;refine⟨fun _ _=>trivial,hK _ _ ?_⟩;cases hdst:o.dst with
   |none=>exact⟨Fr,β,R,hl⟩
   |some d=>exact⟨Fr,β,R.put (hd' d hdst) (by simp only[Rd,Rds];exact⟨[],rfl,rfl⟩),hl⟩
 obtain⟨dst,g,op⟩:=c;dsimp only at h3 h4 h5;subst h3;subst h4;unfold stepG at hs;obtain⟨b,hb,hs⟩:=qb hs;dsimp only at hb hs;rw[z1f h5 hb hr];have hd':∀d,o.dst=some d->d<S.nt:=fun d h=>by rw[h]at hd;simpa using hd
 obtain⟨Fr,β,R,hl⟩:=hr;cases b with
 |true=>
  simp only[if_true,zaa,zao,wau,war]at hs⊢;subst hs;have hrun:(execOp a.eval o).run P w=.ok (.value (a.eval x)) w:=by
   unfold execOp;rw[h1];rfl
  refine zc9 hrun (hK _ _ ?_);cases hdst:o.dst with
  |none=>exact⟨Fr,β,R,hl⟩
  |some d=>exact⟨Fr,β,R.put (hd' d hdst) (zbo R.sl h2),hl⟩
 |false=>
  simp only[wbf,if_false]at hs⊢;cases hs;refine⟨fun _ _=>trivial,hK _ _ ?_⟩;cases hdst:o.dst with
  |none=>exact⟨Fr,β,R,hl⟩
  |some d=>exact⟨Fr,β,R.put (hd' d hdst) (by simp only[Rd,Rds];exact⟨[],rfl,rfl⟩),hl⟩
theorem yec(hcf:zcj P Γ cf)(hS:Good Γ S){ops:Array Oper}{ali:List Nat}{Q:Exit->Act->World->Prop}{rest:List Nat}:∀(l:List COper)(k:Nat)(st:St)(a:Act)(w:World),
 (∀j c,l[j]?=some c->∃o,ops[k+j]?=some o/\zmi P S.nt ops ali o=some c)->zdc cf l st=some st'->Rl P S st a w->(∀a' w',Rl P S st' a' w'->wpOpsIn (fw r) 0 P ops Q rest a' w')->wpOpsIn (fw r) 0 P ops Q (List.range' k l.length++rest) a w
 |[],k,st,a,w,_,h,hr,hK=>by
  simp only[zdc,war]at h;subst h;exact hK a w hr
 |c::l,k,st,a,w,hl,h,hr,hK=>by
  simp only[zdc]at h;obtain⟨s1,h1,h2⟩:=qb h;obtain⟨o,ho,hco⟩:=hl 0 c rfl;rw[wa6]at ho;rw[waf,List.range'_succ,wai];unfold wpOpsIn;simp only[ho];exact z3y hcf hS hco h1 hr fun a' w' hr'=>yec hcf hS l (k+1) s1 a' w' (fun j c' hj=>by
   have:=hl (j+1) c' (by simpa using hj);rwa[wam,Nat.add_comm 1 j]) h2 hr' hK
end
end Nun
namespace Nun
open Go Go.RowKit
def COp.xs:COp->List X
 | .mv x| .asg x| .mvS x| .nilc x| .un _ x| .conv _ x| .b2s x| .box _ _ x| .load _ _ x| .loadA x| .loadM x| .fadr _ x| .fld _ _ _ x| .ext x _| .len x| .lenS x=>[x]
 | .mvA s=>[.t s]
 | .pick c a b=>[c,a,b]
 | .bin _ x y| .beq _ x y| .eqS _ _ x y| .store _ x y| .iadr _ x y| .paddr _ _ x y| .idxA _ _ _ x y| .appendS x y| .idx x y| .append _ _ x y| .mm _ x y=>[x,y]
 | .alloc ..=>[]
 | .build _ ps| .mksl _ _ _ _ ps=>ps.map (·.2.2)
 | .slice _ x lo hi| .sliceP _ _ x lo hi| .sliceS x lo hi=>x::lo.toList++hi.toList
 | .call _ xs| .clos _ xs=>xs
 | .callv g xs=>g::xs
def X.slots:X->List Nat
 | .t s=>[s]
 | .c _=>[]
def COper.reads(o:COper):List Nat:=o.op.xs.flatMap X.slots++(match o.g with|some (s,_)=>[s]|none=>[])
def z1g:COp->Bool
 | .asg _| .loadM _| .alloc .. | .box .. | .store .. | .append .. | .appendS ..=>false
 |_=>true
theorem zlj{c:COp}{ρ ρ':X->PV}(h:∀x∈c.xs,ρ x=ρ' x):zao c ρ=zao c ρ':=by
 cases c
 case build zs ps=>
  have:(ps.map fun q=>(q.1,q.2.1,ρ q.2.2))=ps.map fun q=>(q.1,q.2.1,ρ' q.2.2):=wbm fun q hq=>by
   rw[h q.2.2 (wbv.2 ⟨q,hq,rfl⟩)]
  simp only[zao,this]
 case clos f xs=>
  have:xs.map ρ=xs.map ρ':=wbm fun q hq=>h q hq
  simp only[zao,this]
 case slice n x lo hi=>
  have h1:ρ x=ρ' x:=h x (by simp[COp.xs]);have h2:lo.map ρ=lo.map ρ':=by cases lo<;>simp;exact h _ (by simp[COp.xs])
  have h3:hi.map ρ=hi.map ρ':=by cases hi<;>simp;exact h _ (by simp[COp.xs])
  simp only[zao,h1,h2,h3]
 case sliceP len n x lo hi=>
  have h1:ρ x=ρ' x:=h x (by simp[COp.xs]);have h2:lo.map ρ=lo.map ρ':=by cases lo<;>simp;exact h _ (by simp[COp.xs])
  have h3:hi.map ρ=hi.map ρ':=by cases hi<;>simp;exact h _ (by simp[COp.xs])
  simp only[zao,h1,h2,h3]
 case sliceS x lo hi=>
  have h1:ρ x=ρ' x:=h x (by simp[COp.xs]);have h2:lo.map ρ=lo.map ρ':=by cases lo<;>simp;exact h _ (by simp[COp.xs])
  have h3:hi.map ρ=hi.map ρ':=by cases hi<;>simp;exact h _ (by simp[COp.xs])
  simp only[zao,h1,h2,h3]
 all_goals first
  |rfl
  |(rename_i x y z;have h1:=h x (by simp[COp.xs]);have h2:=h y (by simp[COp.xs]);have h3:=h z (by simp[COp.xs]);simp only[zao,h1,h2,h3];done)
  |(rename_i x y;have h1:=h x (by simp[COp.xs]);have h2:=h y (by simp[COp.xs]);simp only[zao,h1,h2];done)
  |(rename_i x;have h1:=h x (by simp[COp.xs]);simp only[zao,h1];done)
  |(rename_i x _;have h1:=h x (by simp[COp.xs]);simp only[zao,h1];done)
  |(rename_i g _ _ x;have h1:=h x (by simp[COp.xs]);cases g<;>simp only[zao,h1];done)
  |skip
structure Eff where
 p:PV
 own:Bool
 al:Option Loc
 nb:zae
def putE(st:St)(d:Nat)(e:Eff):St:={sl:=(d,e.p)::st.sl,ow:=(if e.own then[.slot d]else[])++zac d st.ow,al:=(match e.al with|some L=>[(d,L)]|none=>[])++za8 d st.al,bx:=st.bx++e.nb}
def makes:COp->Bool
 | .alloc .. | .box ..=>true
 |_=>false
theorem zf8(st:St)(d:Nat)(p:PV):putE st d ⟨p,false,none,[]⟩=st.put d p:=by simp[putE,St.put]
theorem z1h(st:St)(d:Nat)(p:PV):putE st d ⟨p,true,none,[]⟩=st.putOwn d p:=by simp[putE,St.putOwn]
theorem z3z{sl sl':List (Nat×PV)}{x:X}(h:∀s∈x.slots,look sl s=look sl' s):x.ev sl=x.ev sl':=by
 cases x with
 |t s=>exact h s (by simp[X.slots])
 |c v=>rfl
theorem zvw{sl sl':List (Nat×PV)}{c:COp}(h:∀s∈c.xs.flatMap X.slots,look sl s=look sl' s):∀x∈c.xs,x.ev sl=x.ev sl':=fun x hx=>z3z fun s hs=>h s (wce.2 ⟨x,hx,hs⟩)
theorem zy9{ag:Bool}{n:Nat}{p v:PV}{bx:zae}(z:zae)(h:zyf ag n p bx=some v):zyf ag n p (bx++z)=some v:=by
 unfold zyf at h⊢;cases p with
 |ptr b o=>
  dsimp only at h⊢;obtain⟨cs,h1,h2⟩:=qb h;rw[zmw h1];exact h2
 |elt cs=>exact h
 |_=>cases h
theorem yed{cf:Callee}{st st':St}{o:COper}{d:Nat}(hs:zfg cf st o=some st')(hk:z1g o.op=true)(hd:o.dst=some d):
 ∃e:Eff,st'=putE st d e/\e.nb=[]/\(∀s,e.al=some (.slot s)->s∈o.reads)/\∀st2:St,(∀s∈o.reads,look st2.sl s=look st.sl s)->(∃z,st2.bx=st.bx++z)->zfg cf st2 o=some (putE st2 d e):=by
 obtain⟨dst,g,c⟩:=o;dsimp only at hd hk;subst hd;unfold zfg at hs;obtain⟨b,hb,hs2⟩:=qb hs;clear hs;have hs:=hs2;clear hs2;dsimp only at hb hs;have hg2:∀st2:St,(∀s∈(COper.mk (some d) g c).reads,look st2.sl s=look st.sl s)->zej st2 g=some b:=fun st2 h=>by
  rw[<-hb];cases g with
  |none=>rfl
  |some q=>
   obtain⟨s,want⟩:=q;simp only[zej];rw[h s (by simp[COper.reads])]
 cases b with
 |false=>
  simp only[wbf,if_false,war]at hs;refine⟨⟨.tup [],false,none,[]⟩,by rw[<-hs,zf8];rfl,rfl,(fun _ h=>by cases h),fun st2 h _=>?_⟩;unfold zfg;simp only[hg2 st2 h,wat,wbf,if_false,zf8];rfl
 |true=>
  simp only[if_true]at hs;split at hs
  case isFalse=>cases hs
  rename_i hdyn
  have fin:∀e:Eff,e.nb=[]->st'=putE st d e->(∀s,e.al=some (.slot s)->.t s∈c.xs)->(∀st2:St,(∀x∈c.xs,x.ev st2.sl=x.ev st.sl)->(∃z,st2.bx=st.bx++z)->za6 cf st2.sl c=true/\zaa cf st2 (some d) c=some (putE st2 d e))->
   ∃e:Eff,st'=putE st d e/\e.nb=[]/\(∀s,e.al=some (.slot s)->s∈(COper.mk (some d) g c).reads)/\∀st2:St,(∀s∈(COper.mk (some d) g c).reads,look st2.sl s=look st.sl s)->(∃z,st2.bx=st.bx++z)->zfg cf st2 ⟨some d,g,c⟩=some (putE st2 d e):=fun e hnb h1 h0 h2=>by
   refine⟨e,h1,hnb,fun s hs=>by simp only[COper.reads];exact wak.2 (.inl (wce.2 ⟨_,h0 s hs,by simp[X.slots]⟩)),fun st2 h hbx=>?_⟩;obtain⟨k1,k2⟩:=h2 st2 (zvw fun s hs=>h s (by simp only[COper.reads];exact wak.2 (.inl hs))) hbx;unfold zfg;simp only[hg2 st2 h,wat,if_true,k1,k2]
  have plain:zgx c=true->(∀sl,za6 cf sl c=true)->∃e:Eff,st'=putE st d e/\e.nb=[]/\(∀s,e.al=some (.slot s)->s∈(COper.mk (some d) g c).reads)/\∀st2:St,(∀s∈(COper.mk (some d) g c).reads,look st2.sl s=look st.sl s)->(∃z,st2.bx=st.bx++z)->zfg cf st2 ⟨some d,g,c⟩=some (putE st2 d e):=fun hp hpd=>by
   rw[zdk hp]at hs;obtain⟨p,h1,rfl⟩:=qm hs;refine fin ⟨p,false,none,[]⟩ rfl (by rw[zf8];rfl) (fun _ h=>by cases h) fun st2 h _=>⟨hpd _,?_⟩
   rw[zdk hp,zlj (ρ':=(·.ev st.sl)) h,h1,zf8];rfl
  have calls:∀(f:FuncId)(az:List X)(cs:List PV),zc7 cf f ((az.map fun x=>(x.ev st.sl).weak)++cs)=true->callSt cf st (some d) f ((az.map fun x=>(x.ev st.sl).weak)++cs)=some st'->
   (∀st2:St,(∀x∈c.xs,x.ev st2.sl=x.ev st.sl)->za6 cf st2.sl c=za6 cf st.sl c/\zaa cf st2 (some d) c=callSt cf st2 (some d) f ((az.map fun x=>(x.ev st.sl).weak)++cs))->
   ∃e:Eff,st'=putE st d e/\e.nb=[]/\(∀s,e.al=some (.slot s)->s∈(COper.mk (some d) g c).reads)/\∀st2:St,(∀s∈(COper.mk (some d) g c).reads,look st2.sl s=look st.sl s)->(∃z,st2.bx=st.bx++z)->zfg cf st2 ⟨some d,g,c⟩=some (putE st2 d e):=fun f az cs hpl hcall hst2=>by
   unfold zc7 at hpl;simp only[wb1]at hpl;obtain⟨hnp,hpl⟩:=hpl;unfold callSt at hcall;rw[if_pos hnp]at hcall;obtain⟨⟨vs',os,bx',oc'⟩,k1,k2⟩:=qb hcall;rw[k1]at hpl;dsimp only at k2 hpl;rw[if_pos hpl]at k2;have hnp':=hpl;have e1:∀s:St,(if os then s.putOwn d (zef vs')else s.put d (zef vs'))=putE s d ⟨zef vs',os,none,[]⟩:=fun s=>by
    cases os
    ·rw[zf8];rfl
    ·rw[z1h];rfl
   rw[e1]at k2;cases k2;refine fin ⟨zef vs',os,none,[]⟩ rfl rfl (fun _ h=>by cases h) fun st2 h _=>?_
   obtain⟨q1,q2⟩:=hst2 st2 h;refine⟨q1.trans hdyn,?_⟩;rw[q2];unfold callSt;rw[if_pos hnp,k1];simp only[wat];rw[if_pos hnp',e1]
  cases c
  case mvA sx=>
   clear plain calls;obtain⟨hsd,hs3⟩:sx≠d/\st'={(st.put d (look st.sl sx))with al:=(d,.slot sx)::za8 d st.al}:=by
    simp only[zaa,wat]at hs;split at hs
    ·cases hs
    ·rename_i hsd
     exact⟨hsd,(wb9 hs).symm⟩
   refine fin ⟨look st.sl sx,false,some (.slot sx),[]⟩ rfl (by rw[hs3];simp[putE,St.put]) (fun s h=>by cases h;simp[COp.xs]) fun st2 h _=>⟨rfl,?_⟩
   have h1:look st2.sl sx=look st.sl sx:=h (.t sx) (by simp[COp.xs]);simp only[zaa,wat,if_neg hsd,h1];simp[putE,St.put]
  case mksl by0 n size zs ps=>
   simp only[zaa,wat]at hs;obtain⟨cs,h1,hs2⟩:=qb hs;clear hs;split at hs2
   case isFalse=>cases hs2
   rename_i hif;cases hs2;refine fin ⟨.slc n (zff cs),true,none,[]⟩ rfl (by rw[z1h]) (fun _ h=>by cases h) fun st2 h _=>⟨rfl,?_⟩
   have:(ps.map fun q=>(q.1,q.2.1,q.2.2.ev st2.sl))=ps.map fun q=>(q.1,q.2.1,q.2.2.ev st.sl):=wbm fun q hq=>by
    rw[h q.2.2 (wbv.2 ⟨q,hq,rfl⟩)]
   simp only[zaa,wat,this,h1,if_pos hif,z1h]
  case b2s x=>
   simp only[zaa]at hs;obtain⟨p,h1,rfl⟩:=qm hs;refine fin ⟨p,false,none,[]⟩ rfl (by rw[zf8];rfl) (fun _ h=>by cases h) fun st2 h hbx=>⟨rfl,?_⟩
   obtain⟨z,hz⟩:=hbx;have h2:b2sV (x.ev st.sl) (st.bx++z)=some p:=by
    unfold b2sV at h1⊢;split at h1
    ·exact h1
    ·exact h1
    ·obtain⟨q,h3,h4⟩:=qb h1
     rw[zmw h3];exact h4
    ·cases h1
   simp only[zaa,h x (by simp[COp.xs]),hz,h2,wau,zf8];rfl
  case load ag n x=>
   simp only[zaa,wat]at hs;obtain⟨p,h1,rfl⟩:=qm hs;refine fin ⟨p,false,none,[]⟩ rfl (by rw[zf8]) (fun _ h=>by cases h) fun st2 h hbx=>⟨rfl,?_⟩
   obtain⟨z,hz⟩:=hbx;simp only[zaa,wat,h x (by simp[COp.xs]),hz,zy9 z h1,wau,zf8]
  case loadA x=>
   simp only[zaa,wat]at hs;split at hs
   ·rename_i b o e1
    obtain⟨p,h1,rfl⟩:=qm hs;refine fin ⟨p,false,some (.cell b o),[]⟩ rfl (by simp[putE,St.put]) (fun _ h=>by cases h) fun st2 h hbx=>⟨rfl,?_⟩
    obtain⟨z,hz⟩:=hbx;have h1':((zes (st.bx++z) b).bind fun q=>q.2[o]?)=some p:=by
     obtain⟨cs,h2,h3⟩:=qb h1;rw[zmw h2];exact h3
    simp only[zaa,wat,h x (by simp[COp.xs]),hz,e1,h1',wau];simp[putE,St.put]
   ·cases hs
  case call f args=>
   simp only[zaa]at hs;simp only[za6]at hdyn;refine calls f args [] (by simpa using hdyn) (by simpa using hs) fun st2 h=>?_
   have:(args.map fun x=>(x.ev st2.sl).weak)=args.map fun x=>(x.ev st.sl).weak:=wbm fun q hq=>by rw[h q hq]
   simp only[za6,zaa,this,wcf,and_self]
  case callv gx args=>
   simp only[zaa]at hs;simp only[za6]at hdyn;split at hs
   ·rename_i f caps e1
    rw[e1]at hdyn;split at hs
    ·cases hs
    rename_i hne;have hdyn2:zc7 cf f ((args.map fun x=>(x.ev st.sl).weak)++caps)=true:=by simp only[wb1]at hdyn;exact hdyn.2
    refine calls f args caps hdyn2 hs fun st2 h=>?_
    have h1:(args.map fun x=>(x.ev st2.sl).weak)=args.map fun x=>(x.ev st.sl).weak:=wbm fun q hq=>by rw[h q (by simp[COp.xs,hq])]
    have h2:gx.ev st2.sl=.clo f caps:=(h gx (by simp[COp.xs])).trans e1;simp only[za6,zaa,h1,h2,e1,if_neg hne,and_self]
   ·rename_i b e1;rw[e1]at hdyn;cases hdyn
   ·cases hs
  case asg x=>cases hk
  case loadM x=>cases hk
  case alloc e0 zs=>cases hk
  case box e0 n x=>cases hk
  case store n x y=>cases hk
  case append n x y=>cases hk
  case appendS x y=>cases hk
  all_goals exact plain rfl fun _=>rfl
theorem zlk{ps:List PV}(h:zvk ps=true)(b o:Nat):za5 b o ps=[]:=by
 induction ps generalizing o with
 |nil=>rfl
 |cons p r ih=>
  simp only[zvk,wcg,wb1,wb2]at h;simp only[za5,h.1];exact ih h.2 (o+1)
theorem zqv{ps:List PV}(h:zvk ps=true):ps.map wk=ps:=by
 induction ps with
 |nil=>rfl
 |cons p r ih=>
  simp only[zvk,wcg,wb1,wb2]at h;rw[wax,ih h.2,yqy h.1]
theorem yb2{cf:Callee}{st st':St}{o:COper}{d:Nat}(hs:zfg cf st o=some st')(hk:makes o.op=true)(hd:o.dst=some d):
 ∃e:Eff,st'=putE st d e/\(∀s,e.al=some (.slot s)->s∈o.reads)/\∀st2:St,(∀s∈o.reads,look st2.sl s=look st.sl s)->st2.bx=st.bx->zfg cf st2 o=some (putE st2 d e):=by
 obtain⟨dst,g,c⟩:=o;dsimp only at hd hk;subst hd;unfold zfg at hs;obtain⟨b,hb,hs2⟩:=qb hs;clear hs;have hs:=hs2;clear hs2;dsimp only at hb hs;have hg2:∀st2:St,(∀s∈(COper.mk (some d) g c).reads,look st2.sl s=look st.sl s)->zej st2 g=some b:=fun st2 h=>by
  rw[<-hb];cases g with
  |none=>rfl
  |some q=>
   obtain⟨s,want⟩:=q;simp only[zej];rw[h s (by simp[COper.reads])]
 cases b with
 |false=>
  simp only[wbf,if_false,war]at hs;refine⟨⟨.tup [],false,none,[]⟩,by rw[<-hs,zf8];rfl,(fun _ h=>by cases h),fun st2 h _=>?_⟩;unfold zfg;simp only[hg2 st2 h,wat,wbf,if_false,zf8];rfl
 |true=>
  simp only[if_true]at hs;split at hs
  case isFalse=>cases hs
  rename_i hdyn;cases c
  case alloc e0 zs=>
   simp only[za6]at hdyn;simp only[zaa,wau,war,zlk hdyn,zqv hdyn,wa5]at hs;refine⟨⟨.ptr st.bx.length 0,false,none,[(e0,zs)]⟩,by rw[<-hs];simp[putE,St.put],(fun _ h=>by cases h),fun st2 h hbx=>?_⟩;unfold zfg;simp only[hg2 st2 h,wat,if_true,za6,hdyn,zaa,wau,hbx,zlk hdyn,zqv hdyn,wa5];simp[putE,St.put,hbx]
  case box e0 n x=>
   simp only[za6]at hdyn;simp only[zaa,wat,zlk hdyn,zqv hdyn,wa5]at hs;split at hs
   case isFalse=>cases hs
   rename_i hc;cases hs;refine⟨⟨.ptr st.bx.length 0,false,none,[(e0,(x.ev st.sl).cells)]⟩,by simp[putE,St.put],(fun _ h=>by cases h),fun st2 h hbx=>?_⟩;have hx:x.ev st2.sl=x.ev st.sl:=zvw (c:=.box e0 n x) (fun s hs=>h s (by simp only[COper.reads];exact wak.2 (.inl hs))) x (by simp[COp.xs]);unfold zfg;simp only[hg2 st2 h,wat,if_true,za6,hdyn,zaa,hx,if_pos hc,hbx,zlk hdyn,zqv hdyn,wa5];simp[putE,St.put,hbx]
  all_goals cases hk
end Nun
namespace Nun
open Go Go.RowKit
def zdl(ops:Array Oper)(i:Nat):List Nat:=match ops[i]? with
 |some o=>o.after.toList.filterMap fun e=>if Region.binds .any e then some e.on else none
 |none=>[]
def ancL:List (List Nat)->List (List Nat)->List (List Nat)
 |acc,[]=>acc
 |acc,ds::r=>ancL (acc++[(ds.flatMap fun j=>j::acc.getD j []).eraseDups]) r
def ancs(ops:Array Oper):List (List Nat):=ancL [] ((List.range ops.size).map (zdl ops))
def z9i(ops:Array Oper)(cs:List COper)(k:Nat):Bool:=
 let an:=ancs ops
 decide (k<=cs.length)&&
 (List.range ops.size).all (fun i=>(zdl ops i).all (·<i))&&
 (List.range k).all (fun i=>match cs[i]? with
   |some o=>(z1g o.op||(i+1==k&&makes o.op))&&o.dst.isSome
   |none=>true)&&
 (List.range k).all (fun i=>(List.range k).all fun j=>i==j||((cs[i]?).bind (·.dst)) !=((cs[j]?).bind (·.dst)))&&
 (List.range k).all (fun i=>match cs[i]? with
   |some o=>o.reads.all fun s=>(List.range k).all fun j=>((cs[j]?).bind (·.dst)) !=some s||(decide (j<i)&&(an.getD i []).contains j)
   |none=>true)&&
 (List.range cs.length).all (fun i=>decide (i<k)||(List.range i).all fun j=>(an.getD i []).contains j)
theorem yee{dir:List (List Nat)}{E:Nat->Prop}(hE:∀i,E i->∀j∈dir.getD i [],E j):∀(r acc done:List (List Nat)),dir=done++r->acc.length=done.length->
 (∀i,(∀j∈done.getD i [],E j)->∀x∈acc.getD i [],E x)->∀i,(∀j∈dir.getD i [],E j)->∀x∈(ancL acc r).getD i [],E x
 |[],acc,done,hd,hl,h,i,hi,x,hx=>by
  simp only[ancL]at hx;rw[hd,wcf]at hi;exact h i hi x hx
 |ds::r,acc,done,hd,hl,h,i,hi,x,hx=>by
  simp only[ancL]at hx;refine yee hE r _ (done++[ds]) (by rw[hd];simp) (by simp[hl]) (fun i' hi' x' hx'=>?_) i hi x hx;by_cases hlt:i'<acc.length
  ·rw[wca,waa hlt]at hx'
   rw[wca,waa (by omega)]at hi';exact h i' (by rw[wca];exact hi') x' (by rw[wca];exact hx')
  ·by_cases he:i'=acc.length
   ·subst he
    rw[wca,wbr (wab _)]at hx';rw[wca,hl,wbr (wab _)]at hi';simp only[wch,wbl,Option.getD_some]at hx' hi';have hx2:=List.mem_eraseDups.1 hx';obtain⟨j,hj,hx3⟩:=wce.1 hx2;have hEj:=hi' j hj;rcases waq.1 hx3 with e|hx4
    ·rw[e];exact hEj
    ·refine h j (fun y hy=>hE j hEj y ?_) x' hx4
     rw[hd];by_cases hjl:j<done.length
     ·rw[wca,waa hjl];rwa[wca]at hy
     ·rw[wca,wb8 (by omega)]at hy;cases hy
   ·rw[wca,wb8 (by simp;omega)]at hx';cases hx'
theorem z1i{ops:Array Oper}{E:Nat->Prop}(hE:∀i,E i->∀j∈zdl ops i,E j){i:Nat}(hi:i<ops.size)(h:∀j∈zdl ops i,E j):∀x∈(ancs ops).getD i [],E x:=by
 have hg:∀i,i<ops.size->((List.range ops.size).map (zdl ops)).getD i []=zdl ops i:=fun i hi=>by
  rw[wca,wbu,wci hi];rfl
 refine yee (dir:=(List.range ops.size).map (zdl ops)) (fun i' hEi j hj=>?_) _ [] [] rfl rfl (fun i _ x hx=>by simp at hx) i (by rw[hg i hi];exact h);by_cases hlt:i'<ops.size
 ·rw[hg i' hlt]at hj;exact hE i' hEi j hj
 ·rw[wca,wb8 (by simp;omega)]at hj;cases hj
section
variable {P:Program} {w w':World} {r:Option Nat} {Fr Fr':Nat→Nat} {β β':List Nat} {T:List Deferred} {base nt:Nat} {M:Nat→Prop} {w0:World} {F0:Nat→Nat} {st st':St} {a a':Act} {cf:Callee} {Γ:Glob} {S:S0}
theorem Rl.congr(h:Rl P S st a w)(h1:∀i,look st'.sl i=look st.sl i)(h2:∀L,L∈st'.ow->L∈st.ow)(h3:∀q,q∈st'.al->q∈st.al)(h4:st'.bx=st.bx):Rl P S st' a w:=by
 obtain⟨Fr,β,R,hl⟩:=h;have hpv:∀L,pvAt st' L=pvAt st L:=fun L=>by cases L<;>simp only[pvAt,h1,h4]
 exact⟨Fr,β,⟨fun i=>by rw[h1];exact R.sl i,R.nt,R.df,by rw[h4];exact R.bx,R.nd,fun L hL=>by rw[hpv];exact R.own L (h2 L hL),fun L hL L' hL'=>R.sep L (h2 L hL) L' (h2 L' hL'),fun L hL=>R.out L (h2 L hL),fun q hq=>R.al q (h3 q hq),
  fun g hg=>R.may g (hg.imp id fun⟨L,k1,k2⟩=>⟨L,h2 L k1,k2⟩),R.old,R.ge,R.os,R.tape,R.output⟩,hl⟩
structure Sat (k:Nat) (d:Nat→Nat) (eff:Nat→Eff) (E:Nat→Prop) (st0 st:St):Prop where
 e1:∀ i,i<k→E i→look st.sl (d i)=(eff i).p
 e2:∀ s,(∀ i,i<k→E i→d i≠s)→look st.sl s=look st0.sl s
 e3:∀ L,L∈st.ow ↔ (∃ i,i<k∧E i∧(eff i).own=true∧L=.slot (d i))∨(L∈st0.ow∧∀ i,i<k→E i→ment (d i) L=false)
 e4:∀ q,q∈st.al ↔ ∃ i,i<k∧E i∧(eff i).al=some q.2∧q.1=d i
 e5:(∀ i,i<k→E i→(eff i).nb=[])→st.bx=st0.bx
 e6:∀ i,i<k→E i→(eff i).nb≠[]→st.bx=st0.bx++(eff i).nb
theorem Sat.start{k:Nat}{d:Nat->Nat}{eff:Nat->Eff}{st0:St}(h:st0.al=[]):Sat k d eff (fun _=>False) st0 st0:=
 ⟨fun _ _ h=>h.elim,fun _ _=>rfl,fun L=>⟨fun h=>.inr ⟨h,fun _ _ h=>h.elim⟩,fun h=>h.elim (fun⟨_,_,h,_⟩=>h.elim) (·.1)⟩,fun q=>by rw[h];exact⟨(fun h=>by cases h),fun⟨_,_,h,_⟩=>h.elim⟩,fun _=>rfl,fun _ _ h=>h.elim⟩
theorem Sat.step{k:Nat}{d:Nat->Nat}{eff:Nat->Eff}{E:Nat->Prop}{st0 st:St}(h:Sat k d eff E st0 st)(hd:∀i j,i<k->j<k->i≠j->d i≠d j){i:Nat}(hi:i<k)(hn:¬E i)
 (hnb:∀j,j<k->(eff j).nb≠[]->j+1=k) (hal:∀j,j<k->E j->∀L,(eff j).al=some L->ment (d i) L=false):Sat k d eff (fun j=>E j\/j=i) st0 (putE st (d i) (eff i)):=by
 have hne:∀j,j<k->E j->d j≠d i:=fun j hj hE=>hd j i hj hi fun e=>hn (e▸hE)
 refine⟨fun j hj hE=>?_,fun s hs=>?_,fun L=>?_,fun q=>?_,fun hall=>?_,fun j hj hE hne'=>?_⟩
 rotate_left 4
 ·have h1:=h.e5 fun j hj hE=>hall j hj (.inl hE)
  simp only[putE,h1,hall i hi (.inr rfl),wcf]
 ·rcases hE with hE|rfl
  ·have h1:(eff i).nb=[]:=wcj fun hc=>by
    have e1:=hnb i hi hc;have e2:=hnb j hj hne';exact hn ((show i=j by omega)▸hE)
   simp only[putE,h1,wcf];exact h.e6 j hj hE hne'
  ·have h1:=h.e5 fun m hm hE=>wcj fun hc=>by
    have e1:=hnb j hj hne';have e2:=hnb m hm hc;exact hn ((show m=j by omega)▸hE)
   simp only[putE,h1]
 ·simp only[putE,za4]
  rcases hE with hE|rfl
  ·rw[if_neg (was (hne j hj hE))];exact h.e1 j hj hE
  ·rw[if_pos rfl]
 ·simp only[putE,za4]
  rw[if_neg (hs i hi (.inr rfl))];exact h.e2 s fun j hj hE=>hs j hj (.inl hE)
 ·simp only[putE,wak,zco]
  constructor
  ·rintro(hm|⟨hm,hx⟩)
   ·left
    cases ho:(eff i).own with
    |false=>rw[ho]at hm;cases hm
    |true=>rw[ho]at hm;simp at hm;exact⟨i,hi,.inr rfl,ho,hm⟩
   ·rcases(h.e3 L).1 hm with⟨j,k1,k2,k3,k4⟩|⟨k1,k2⟩
    ·exact .inl ⟨j,k1,.inl k2,k3,k4⟩
    ·refine .inr ⟨k1,fun j hj hE=>?_⟩
     rcases hE with hE|rfl
     ·exact k2 j hj hE
     ·exact hx
  ·rintro(⟨j,k1,k2,k3,k4⟩|⟨k1,k2⟩)
   ·rcases k2 with k2|rfl
    ·right
     refine⟨(h.e3 L).2 (.inl ⟨j,k1,k2,k3,k4⟩),?_⟩;rw[k4];simp[ment];exact hne j k1 k2
    ·left;rw[k3,k4];simp
   ·exact .inr ⟨(h.e3 L).2 (.inr ⟨k1,fun j hj hE=>k2 j hj (.inl hE)⟩),k2 i hi (.inr rfl)⟩
 ·simp only[putE,wak,zgw]
  constructor
  ·rintro(hm|⟨hm,hx,hy⟩)
   ·cases ho:(eff i).al with
    |none=>rw[ho]at hm;cases hm
    |some L=>
     rw[ho]at hm;simp at hm;exact⟨i,hi,.inr rfl,by rw[ho,hm],by rw[hm]⟩
   ·obtain⟨j,k1,k2,k3,k4⟩:=(h.e4 q).1 hm
    exact⟨j,k1,.inl k2,k3,k4⟩
  ·rintro⟨j,k1,k2,k3,k4⟩
   rcases k2 with k2|rfl
   ·exact .inr ⟨(h.e4 q).2 ⟨j,k1,k2,k3,k4⟩,by rw[k4];exact hne j k1 k2,hal j k1 k2 _ k3⟩
   ·left;rw[k3];simp;rw[<-k4]
theorem z9j:∀(l:List COper)(st stk:St),zij cf l st=some stk->(∀(i:Nat)(o:COper),l[i]?=some o->(z1g o.op=true\/(i+1=l.length/\makes o.op=true))/\o.dst.isSome=true)->
 ∃(es:List Eff)(ss:List St),es.length=l.length/\ss[0]?=some st/\ss[l.length]?=some stk/\∀i o,l[i]?=some o->∃e s d,es[i]?=some e/\ss[i]?=some s/\o.dst=some d/\ss[i+1]?=some (putE s d e)/\(∀x,e.al=some (.slot x)->x∈o.reads)/\(e.nb≠[]->i+1=l.length)/\
  ∀st2:St,(∀x∈o.reads,look st2.sl x=look s.sl x)->(∃z,st2.bx=s.bx++z)->(i+1=l.length->st2.bx=s.bx)->zfg cf st2 o=some (putE st2 d e)
 |[],st,stk,h,_=>by
  simp only[zij,war]at h;subst h;exact⟨[],[st],rfl,rfl,rfl,fun i o hi=>by simp at hi⟩
 |o::l,st,stk,h,hk=>by
  simp only[zij]at h;obtain⟨s1,h1,h2⟩:=qb h;obtain⟨hk1,hk2⟩:=hk 0 o (by simp);obtain⟨d,hd⟩:=wck.1 hk2;obtain⟨e,e1,h4,h4b,h5⟩:∃e:Eff,s1=putE st d e/\(∀x,e.al=some (.slot x)->x∈o.reads)/\(e.nb≠[]->0+1=(o::l).length)/\∀st2:St,(∀x∈o.reads,look st2.sl x=look st.sl x)->(∃z,st2.bx=st.bx++z)->(0+1=(o::l).length->st2.bx=st.bx)->zfg cf st2 o=some (putE st2 d e):=by
   rcases hk1 with hk1|⟨hk1,hk3⟩
   ·obtain⟨e,e1,e2,e3,e4⟩:=yed h1 hk1 hd
    exact⟨e,e1,e3,fun h=>absurd e2 h,fun st2 k1 k2 _=>e4 st2 k1 k2⟩
   ·obtain⟨e,e1,e3,e4⟩:=yb2 h1 hk3 hd
    exact⟨e,e1,e3,fun _=>hk1,fun st2 k1 _ k3=>e4 st2 k1 (k3 hk1)⟩
  subst e1;obtain⟨es,ss,k1,k2,k3,k4⟩:=z9j l _ stk h2 fun i o' ho'=>by
   obtain⟨q1,q2⟩:=hk (i+1) o' (by simpa using ho');exact⟨q1.imp id fun⟨q3,q4⟩=>⟨by simpa using q3,q4⟩,q2⟩
  refine⟨e::es,st::ss,by simp[k1],rfl,by simpa using k3,fun i o' hi=>?_⟩;cases i with
  |zero=>
   simp at hi;subst hi;exact⟨e,st,d,rfl,rfl,hd,by simpa using k2,h4,h4b,h5⟩
  |succ i=>
   obtain⟨e',s',d',q1,q2,q3,q4,q5,q6,q7⟩:=k4 i o' (by simpa using hi);exact⟨e',s',d',by simpa using q1,by simpa using q2,q3,by simpa using q4,q5,(fun h=>by have:=q6 h;simp;omega),fun st2 u1 u2 u3=>q7 st2 u1 u2 fun u4=>u3 (by simp;omega)⟩
theorem yq5{o:COper}(h:zfg cf st o=some st'):stepG cf st o=some st':=by
 unfold zfg at h;obtain⟨b,hb,h⟩:=qb h;unfold stepG;rw[hb];cases b with
 |false=>exact h
 |true=>
  simp only[if_true]at h;simp only[wat,if_true];split at h
  ·exact h
  ·cases h
theorem zvx{ops:Array Oper}{Q:Exit->Act->World->Prop}{K:Act->World->Prop}{i:Nat}{o:Oper}(ho:ops[i]?=some o)(h:if Region.wanted o (yielded ops a.tmps)then o.wpIn (fw r) 0 P a w K Q else(∀f,o.about P w a.eval=some f->(fw r).fn f)/\K (a.put o.dst undef) w):wpOpIn (fw r) 0 P ops Q i K a w:=by
 unfold wpOpIn;simp only[ho];exact h
theorem ykf(hcf:zcj P Γ cf)(hS:Good Γ S){ops:Array Oper}{ali:List Nat}{cs:List COper}{k:Nat}{Q:Exit->Act->World->Prop}{st0 stk stF:St}(hok:z9i ops cs k=true)(hlen:cs.length=ops.size)
 (hco:∀(j:Nat)(c:COper),cs[j]?=some c->∃o,ops[j]?=some o/\CoR P S.nt ops ali o c) (hal:st0.al=[]) (hpre:zij cf (cs.take k) st0=some stk) (htail:zdc cf (cs.drop k) stk=some stF) (hr:Rl P S st0 a w)
 (hK:∀a' w',Rl P S stF a' w'->Q .normal a' w'):wpAnyIn (fw r) 0 P .any ops Q ops.size (Array.replicate ops.size false) a w:=by
 unfold z9i at hok;simp only[wb1,decide_eq_true_eq,wa9,wcl,wcc,bne_iff_ne,ne_eq,beq_iff_eq]at hok;obtain⟨⟨⟨⟨⟨hk,hback⟩,hkind⟩,hdist⟩,hreads⟩,htl⟩:=hok;have hkl:(cs.take k).length=k:=by rw[wa2];omega
 have hkind':∀(i:Nat)(o:COper),(cs.take k)[i]?=some o->(z1g o.op=true\/(i+1=(cs.take k).length/\makes o.op=true))/\o.dst.isSome=true:=fun i o hi=>by
  have hik:i<k:=by rw[<-hkl];exact(qg hi).1
  rw[wbz hik]at hi;have:=hkind i hik;rw[hi]at this;simp only[wb1,wcc,beq_iff_eq]at this;rw[hkl];exact this
 obtain⟨es,ss,hel,hs0,hsk,hss⟩:=z9j (cf:=cf) (cs.take k) st0 stk hpre hkind';rw[hkl]at hel hsk hss;obtain⟨d,hd⟩:∃d:Nat->Nat,∀(i:Nat)(c:COper),i<k->cs[i]?=some c->c.dst=some (d i):=by
  refine⟨fun i=>((cs[i]?).bind (·.dst)).getD 0,fun i c hi hc=>?_⟩;have h1:=(hkind' i c (show(cs.take k)[i]?=some c by rw[wbz hi];exact hc)).2;obtain⟨x,hx⟩:=wck.1 h1;simp[hc,hx]
 obtain⟨eff,heff⟩:∃eff:Nat->Eff,∀(i:Nat)(e:Eff),es[i]?=some e->eff i=e:=⟨fun i=>(es[i]?).getD ⟨.unk,false,none,[]⟩,fun i e h=>by simp[h]⟩;have hcs:∀i:Nat,i<k->∃c,cs[i]?=some c:=fun i hi=>⟨_,qe (by omega)⟩
 have hdd:∀i j,i<k->j<k->i≠j->d i≠d j:=fun i j hi hj hne e=>by
  obtain⟨c,hc⟩:=hcs i hi;obtain⟨c',hc'⟩:=hcs j hj;rcases hdist i hi j hj with h|h
  ·exact hne h
  ·exact h (by rw[hc,hc'];simp[hd i c hi hc,hd j c' hj hc',e])
 have hrd:∀(i:Nat)(c:COper),i<k->cs[i]?=some c->∀s∈c.reads,∀j,j<k->d j=s->j<i/\j∈(ancs ops).getD i []:=fun i c hi hc s hs j hj hdj=>by
  have h1:=hreads i hi;rw[hc]at h1;simp only[wa9,wcl,wcc,bne_iff_ne,ne_eq,wb1,decide_eq_true_eq]at h1;obtain⟨c',hc'⟩:=hcs j hj;rcases h1 s hs j hj with h|⟨h2,h3⟩
  ·exact absurd (by rw[hc'];simp[hd j c' hj hc',hdj]) h
  ·exact⟨h2,by simpa using h3⟩
 have hop:∀i:Nat,i<k->∃c s,cs[i]?=some c/\ss[i]?=some s/\ss[i+1]?=some (putE s (d i) (eff i))/\(∀x,(eff i).al=some (.slot x)->x∈c.reads)/\((eff i).nb≠[]->i+1=k)/\
  ∀st2:St,(∀x∈c.reads,look st2.sl x=look s.sl x)->(∃z,st2.bx=s.bx++z)->(i+1=k->st2.bx=s.bx)->zfg cf st2 c=some (putE st2 (d i) (eff i)):=fun i hi=>by
  obtain⟨c,hc⟩:=hcs i hi;obtain⟨e,s,dd,q1,q2,q3,q4,q5,q6,q7⟩:=hss i c (by rw[wbz hi];exact hc);have h1:=hd i c hi hc;rw[q3]at h1;cases h1;have h2:=heff i e q1;subst h2;exact⟨c,s,hc,q2,q4,q5,q6,q7⟩
 have hnb:∀j,j<k->(eff j).nb≠[]->j+1=k:=fun j hj h=>by
  obtain⟨_,_,_,_,_,_,h6,_⟩:=hop j hj;exact h6 h
 have halx:∀i,i<k->∀j,j<k->∀E:Nat->Prop,¬E i->E j->(∀x∈(ancs ops).getD j [],E x)->∀L,(eff j).al=some L->ment (d i) L=false:=fun i hi j hj E hn hE hcl L hL=>by
  cases L with
  |cell b o=>rfl
  |slot x=>
   simp only[ment,beq_eq_false_iff_ne,ne_eq];intro e;obtain⟨c,s,hc,_,_,h5,_,_⟩:=hop j hj;exact hn (hcl i (hrd j c hj hc x (h5 x hL) i hi e.symm).2)
 have hsat:∀i:Nat,i<=k->∃s,ss[i]?=some s/\Sat k d eff (fun j=>j<i) st0 s:=fun i=>by
  induction i with
  |zero=>exact fun _=>⟨st0,hs0,by have:=Sat.start (k:=k) (d:=d) (eff:=eff) hal;simpa using this⟩
  |succ i ih=>
   intro hi;obtain⟨s,h1,h2⟩:=ih (by omega);obtain⟨c,s',hc,h3,h4,h5,_,_⟩:=hop i hi;rw[h1]at h3;cases h3;refine⟨_,h4,?_⟩;have:=h2.step hdd (i:=i) hi (by omega) hnb fun j hj hE L hL=>by
    cases L with
    |cell b o=>rfl
    |slot x=>
     simp only[ment,beq_eq_false_iff_ne,ne_eq];intro e;obtain⟨c',s'',hc',_,_,h6,_,_⟩:=hop j hj;have:=(hrd j c' hj hc' x (h6 x hL) i hi e.symm).1;omega
   have e:(fun j=>j<i\/j=i)=fun j=>j<i+1:=by funext j;apply propext;omega
   rw[e]at this;exact this
 have hsatk:Sat k d eff (fun j=>j<k) st0 stk:=by
  obtain⟨s,h1,h2⟩:=hsat k (wab _);rw[hsk]at h1;cases h1;exact h2
 have htails:∀m,k<=m->m<=ops.size->∃s,zdc cf ((cs.drop k).take (m - k)) stk=some s/\zdc cf (cs.drop m) s=some stF:=by
  have split:∀(l:List COper)(n:Nat)(s:St),zdc cf l s=some stF->∃s',zdc cf (l.take n) s=some s'/\zdc cf (l.drop n) s'=some stF:=by
   intro l
   induction l with
   |nil=>intro n s h;exact⟨s,by simp[zdc],by simpa using h⟩
   |cons o l ih=>
    intro n s h;cases n with
    |zero=>exact⟨s,rfl,h⟩
    |succ n=>
     simp only[zdc]at h;obtain⟨s1,h1,h2⟩:=qb h;obtain⟨s',h3,h4⟩:=ih n s1 h2;exact⟨s',by simp only[wag,zdc,h1,wat];exact h3,h4⟩
  intro m hm hm2;obtain⟨s,h1,h2⟩:=split (cs.drop k) (m - k) stk htail;refine⟨s,h1,?_⟩;rw[wbd]at h2;rwa[show k+(m - k)=m by omega]at h2
 have evOps_append:∀(l l':List COper)(s:St),zdc cf (l++l') s=(zdc cf l s).bind (zdc cf l'):=by
  intro l
  induction l with
  |nil=>intro l' s;rfl
  |cons o l ih=>
   intro l' s;simp only[wai,zdc];cases stepG cf s o with
   |none=>rfl
   |some s1=>simp only[wat];exact ih l' s1
 have tailstep:∀m,k<=m->m<ops.size->∀s,zdc cf ((cs.drop k).take (m - k)) stk=some s->∃c s',cs[m]?=some c/\stepG cf s c=some s'/\zdc cf ((cs.drop k).take (m+1 - k)) stk=some s':=fun m hm hm2 s hs=>by
  obtain⟨s0,h1,h2⟩:=htails m hm (by omega);rw[hs]at h1;cases h1;have hml:m<cs.length:=by omega
  rw[wcm hml]at h2;simp only[zdc]at h2;obtain⟨s',h3,h4⟩:=qb h2;refine⟨cs[m],s',qe hml,h3,?_⟩;have:(cs.drop k).take (m+1 - k)=(cs.drop k).take (m - k)++[cs[m]]:=by
   rw[show m+1 - k=(m - k)+1 by omega,wa0 (by rw[wbc];omega)];congr 2;rw[List.getElem_drop];congr 1;omega
  rw[this,evOps_append,hs];simp only[wat,zdc,h3]
 have setd:∀(listed:Array Bool)(i j:Nat),i<listed.size->((listed.setIfInBounds i true).getD j false=true ↔ (listed.getD j false=true\/j=i)):=fun listed i j hi=>by
  by_cases h:i=j
  ·subst h;simp[hi]
  ·rw[getD_set_ne false h]
   exact⟨.inl,fun h'=>h'.resolve_right (was h)⟩
 have full:∀(E:Nat->Prop)(s:St)(a:Act)(w:World),Sat k d eff E st0 s->(∀i,i<k->E i)->Rl P S s a w->Rl P S stk a w:=fun E s a w hs hE hr=>by
  refine hr.congr (fun x=>?_) (fun L hL=>?_) (fun q hq=>?_) ?_
  ·by_cases hx:∃j,j<k/\d j=x
   ·obtain⟨j,hj,rfl⟩:=hx
    rw[hsatk.e1 j hj hj,hs.e1 j hj (hE j hj)]
   ·have hx':∀j,j<k->d j≠x:=fun j hj e=>hx ⟨j,hj,e⟩
    rw[hsatk.e2 x fun j hj _=>hx' j hj,hs.e2 x fun j hj _=>hx' j hj]
  ·refine(hs.e3 L).2 (((hsatk.e3 L).1 hL).imp ?_ ?_)
   ·rintro⟨i,h1,h2,h3,h4⟩;exact⟨i,h1,hE i h1,h3,h4⟩
   ·rintro⟨h1,h2⟩;exact⟨h1,fun i hi _=>h2 i hi hi⟩
  ·obtain⟨i,h1,h2,h3,h4⟩:=(hsatk.e4 q).1 hq
   exact(hs.e4 q).2 ⟨i,h1,hE i h1,h3,h4⟩
  ·by_cases hx:∃j,j<k/\(eff j).nb≠[]
   ·obtain⟨j,hj,hj2⟩:=hx
    rw[hsatk.e6 j hj hj hj2,hs.e6 j hj (hE j hj) hj2]
   ·have hx':∀j,j<k->(eff j).nb=[]:=fun j hj=>wcj fun h=>hx ⟨j,hj,h⟩
    rw[hsatk.e5 fun j hj _=>hx' j hj,hs.e5 fun j hj _=>hx' j hj]
 have fin:∀(listed:Array Bool)(a:Act)(w:World),(∀i,i<ops.size->listed.getD i false=true)->
  ((∃s,Sat k d eff (fun j=>listed.getD j false=true) st0 s/\Rl P S s a w/\∀i,k<=i->¬listed.getD i false=true)\/
    (∃m s,k<=m/\m<=ops.size/\(∀i,i<ops.size->(listed.getD i false=true ↔ i<m))/\zdc cf ((cs.drop k).take (m - k)) stk=some s/\Rl P S s a w))->Q .normal a w:=fun listed a w hall h=>by
  rcases h with⟨s,h1,h2,h3⟩|⟨m,s,h1,h2,h3,h4,h5⟩
  ·have hkn:ops.size<=k:=by
    rcases wcn k ops.size with h|h
    ·exact absurd (hall k h) (h3 k (wab _))
    ·exact h
   have h6:=full _ s a w h1 (fun i hi=>hall i (by omega)) h2;have:cs.drop k=[]:=List.drop_eq_nil_iff.2 (by omega);rw[this]at htail;simp only[zdc,war]at htail;subst htail;exact hK a w h6
  ·have hmn:m=ops.size:=by
    rcases wcn m ops.size with h|h
    ·have:=(h3 m h).1 (hall m h);omega
    ·omega
   subst hmn;rw[wco (by rw[wbc];omega),htail]at h4;cases h4;exact hK a w h5
 have main:∀(fuel:Nat)(listed:Array Bool)(a:Act)(w:World),listed.size=ops.size->((List.range ops.size).filter fun i=>!listed.getD i false).length<=fuel->
  (∀i,i<ops.size->listed.getD i false=true->∀j∈zdl ops i,listed.getD j false=true)->
  ((∃s,Sat k d eff (fun j=>listed.getD j false=true) st0 s/\Rl P S s a w/\∀i,k<=i->¬listed.getD i false=true)\/
    (∃m s,k<=m/\m<=ops.size/\(∀i,i<ops.size->(listed.getD i false=true ↔ i<m))/\zdc cf ((cs.drop k).take (m - k)) stk=some s/\Rl P S s a w))->
  wpAnyIn (fw r) 0 P .any ops Q fuel listed a w:=by
  intro fuel;have rdy:∀(listed:Array Bool)(i:Nat),listed.size=ops.size->(i∈Region.ready .any ops listed ↔ i<ops.size/\¬listed.getD i false=true/\∀j∈zdl ops i,listed.getD j false=true):=fun listed i hz=>by
   rw[mem_ready];constructor
   ·rintro⟨h1,o,ho,h2⟩
    have hi:=(wan.1 ho).1;refine⟨hi,?_,fun j hj=>?_⟩
    ·rw[wap,wcp (by omega)]at h1⊢
     simp at h1⊢;exact h1
    ·unfold zdl at hj
     rw[ho]at hj;obtain⟨e,he,hj2⟩:=wcq.1 hj;split at hj2
     ·rename_i hb;cases hj2;exact h2 e (by simpa using he) hb
     ·cases hj2
   ·rintro⟨hi,h1,h2⟩
    refine⟨?_,ops[i],wcp hi,fun e he hb=>h2 _ ?_⟩
    ·rw[wap,wcp (by omega)]at h1⊢
     simp at h1⊢;exact h1
    ·unfold zdl
     rw[wcp hi];exact wcq.2 ⟨e,by simpa using he,by rw[if_pos hb]⟩
  have stuck:∀listed:Array Bool,listed.size=ops.size->Region.ready .any ops listed=[]->∀i,i<ops.size->listed.getD i false=true:=fun listed hz hrd i=>by
   induction i using Nat.strongRecOn with
   |_ i ih=>
    intro hi;by_cases h:listed.getD i false=true
    ·exact h
    ·have:i∈Region.ready .any ops listed:=(rdy listed i hz).2 ⟨hi,h,fun j hj=>by
      have hlt:=hback i hi j hj;exact ih j hlt (by omega)⟩
     rw[hrd]at this;cases this
  induction fuel with
  |zero=>
   intro listed a w hz hc _ hph;have hall:∀i,i<ops.size->listed.getD i false=true:=fun i hi=>by
    cases hb:listed.getD i false with
    |true=>rfl
    |false=>
     have hmem:i∈(List.range ops.size).filter fun i=>!listed.getD i false:=wbw.2 ⟨wcl.2 hi,by rw[hb];rfl⟩
     have h0:(List.range ops.size).filter (fun i=>!listed.getD i false)=[]:=qz (by omega);rw[h0]at hmem;cases hmem
   refine⟨?_,fin listed a w hall hph⟩;cases hrl:Region.ready .any ops listed with
   |nil=>rfl
   |cons i r=>
    have:=(rdy listed i hz).1 (by rw[hrl];simp);exact absurd (hall i this.1) this.2.1
  |succ fuel ih=>
   intro listed a w hz hc hcl hph;refine⟨fun h=>fin listed a w (stuck listed hz h) hph,fun i hi=>?_⟩;obtain⟨hin,hnl,hdir⟩:=(rdy listed i hz).1 hi;have hcl':∀i,listed.getD i false=true->∀j∈zdl ops i,listed.getD j false=true:=fun i' h=>by
    by_cases hlt:i'<ops.size
    ·exact hcl i' hlt h
    ·rw[wap,wcr (by omega)]at h;cases h
   have hanc:∀x∈(ancs ops).getD i [],listed.getD x false=true:=z1i hcl' hin hdir;have hz2:(listed.setIfInBounds i true).size=ops.size:=by simp[hz]
   have hcnt:((List.range ops.size).filter fun j=>!(listed.setIfInBounds i true).getD j false).length<=fuel:=by
    have e1:((List.range ops.size).filter fun j=>!(listed.setIfInBounds i true).getD j false)=((List.range ops.size).filter fun j=>!listed.getD j false).filter (· !=i):=by
     rw[wcs];apply wct;intro j _;have:=setd listed i j (by omega);by_cases hji:j=i
     ·subst hji
      have h1:(listed.setIfInBounds j true).getD j false=true:=this.2 (.inr rfl);rw[h1];simp
     ·rw[getD_set_ne false (was hji)];simp[hji]
    have hmem:i∈(List.range ops.size).filter fun j=>!listed.getD j false:=wbw.2 ⟨wcl.2 hin,by simpa using hnl⟩
    rw[e1];have:=wcu.2 (show∃x∈(List.range ops.size).filter (fun j=>!listed.getD j false),¬((x !=i)=true)from⟨i,hmem,by simp⟩);omega
   have hcl2:∀i',i'<ops.size->(listed.setIfInBounds i true).getD i' false=true->∀j∈zdl ops i',(listed.setIfInBounds i true).getD j false=true:=fun i' hi' h j hj=>by
    rw[setd listed i _ (by omega)]at h⊢;rcases h with h|rfl
    ·exact .inl (hcl i' hi' h j hj)
    ·exact .inl (hdir j hj)
   have tailop:∀m s,k<=m->m<ops.size->(∀i,i<ops.size->(listed.getD i false=true ↔ i<m))->zdc cf ((cs.drop k).take (m - k)) stk=some s->Rl P S s a w->wpOpIn (fw r) 0 P ops Q i (wpAnyIn (fw r) 0 P .any ops Q fuel (listed.setIfInBounds i true)) a w:=fun m s hm hm2 hl hev hrl=>by
    have him:i=m:=by
     have h1:¬i<m:=fun h=>hnl ((hl i hin).2 h)
     rcases htl i (by omega)with h|h
     ·omega
     ·rcases wcn m i with h2|h2
      ·have h3:=hanc m (by simpa using h m h2)
       have:=(hl m hm2).1 h3;omega
      ·omega
    subst him;obtain⟨c,s',h1,h2,h3⟩:=tailstep i hm hm2 s hev;obtain⟨o,ho,hcoo⟩:=hco i c h1;refine zvx ho (zod hcf hS hcoo h2 hrl fun a' w' hr'=>ih _ a' w' hz2 hcnt hcl2 (.inr ⟨i+1,s',by omega,by omega,fun j hj=>?_,h3,hr'⟩));rw[setd listed i j (by omega),hl j hj];omega
   rcases hph with⟨s,h1,h2,h3⟩|⟨m,s,h1,h2,h3,h4,h5⟩
   ·by_cases hik:i<k
    ·obtain⟨c,si,hc1,hsi,_,hx,_,hloc⟩:=hop i hik
     obtain⟨o,ho,hcoo⟩:=hco i c hc1;obtain⟨si',hsi',hsat'⟩:=hsat i (by omega);rw[hsi]at hsi';cases hsi';have hsib:si.bx=st0.bx:=hsat'.e5 fun j hj hji=>wcj fun h=>by
      have:=hnb j hj h;omega
     have hstep:=hloc s (fun x hxr=>by
      by_cases hx:∃j,j<k/\d j=x
      ·obtain⟨j,hj,rfl⟩:=hx
       obtain⟨q1,q2⟩:=hrd i c hik hc1 _ hxr j hj rfl;rw[h1.e1 j hj (hanc j q2),hsat'.e1 j hj q1]
      ·have hx':∀j,j<k->d j≠x:=fun j hj e=>hx ⟨j,hj,e⟩
       rw[h1.e2 x fun j hj _=>hx' j hj,hsat'.e2 x fun j hj _=>hx' j hj]) (by
       rw[hsib];by_cases hx:∃j,j<k/\listed.getD j false=true/\(eff j).nb≠[]
       ·obtain⟨j,hj,hj1,hj2⟩:=hx
        exact⟨_,h1.e6 j hj hj1 hj2⟩
       ·exact⟨[],by rw[wcf];exact h1.e5 fun j hj hj1=>wcj fun h=>hx ⟨j,hj,hj1,h⟩⟩) (fun hlast=>by
       rw[hsib];refine h1.e5 fun j hj hj1=>wcj fun h=>?_
       have:=hnb j hj h;exact hnl ((show j=i by omega)▸hj1))
     have hnew:=h1.step hdd hik hnl hnb fun j hj hE L hL=>halx i hik j hj (fun j=>listed.getD j false=true) hnl hE (z1i hcl' (by omega) (hcl' j hE)) L hL
     refine zvx ho (zod hcf hS hcoo (yq5 hstep) h2 fun a' w' hr'=>ih _ a' w' hz2 hcnt hcl2 (.inl ⟨_,?_,hr',fun j hj hlj=>?_⟩))
     ·have e:(fun j=>(listed.setIfInBounds i true).getD j false=true)=fun j=>listed.getD j false=true\/j=i:=by
       funext j;exact propext (setd listed i j (by omega))
      rw[e];exact hnew
     ·rcases(setd listed i j (by omega)).1 hlj with h|h
      ·exact h3 j hj h
      ·omega
    ·
     have hall:∀j,j<i->listed.getD j false=true:=fun j hj=>by
      rcases htl i (by omega)with h|h
      ·omega
      ·exact hanc j (by simpa using h j hj)
     have hki:i=k:=by
      rcases wcn k i with h|h
      ·exact absurd (hall k h) (h3 k (wab _))
      ·omega
     subst hki;exact tailop i stk (wab _) hin (fun j hj=>⟨fun h=>by
      rcases wcn j i with h'|h'
      ·exact h'
      ·exact absurd h (h3 j h'),fun h=>hall j h⟩) (by simp[zdc]) (full _ s a w h1 hall h2)
   ·have hmn:m<ops.size:=by
     rcases wcn m ops.size with h|h
     ·exact h
     ·exact absurd ((h3 i hin).2 (by omega)) hnl
    exact tailop m s h1 hmn h3 h4 h5
 refine main ops.size _ a w (by simp) (wac (List.length_filter_le _ _) (by simp)) (fun i hi h=>by simp[hi]at h) (.inl ⟨st0,?_,hr,fun i hi h=>?_⟩)
 ·have h9:=Sat.start (k:=k) (d:=d) (eff:=eff) hal
  have e:(fun j=>(Array.replicate ops.size false).getD j false=true)=fun _=>False:=by
   funext j;apply propext;by_cases hj:j<ops.size<;>simp[hj]
  rw[e];exact h9
 ·by_cases hj:i<ops.size<;>simp[hj]at h
end
end Nun
namespace Nun
open Go Go.RowKit
def clr(D:List Nat):Loc->Bool
 | .slot i=>!D.contains i
 | .cell ..=>true
structure Part (N:Nat→Prop) (D:List Nat) (s1 s:St):Prop where
 sl:∀ x,¬ N x→look s1.sl x=look s.sl x
 ow:s1.ow.filter (clr D)=s.ow
 al:s1.al=s.al
 bx:s1.bx=s.bx
 no:∀ q∈s.al,q.1 ∉ D∧clr D q.2=true
 un:∀ x,x∈D→¬ N x→.slot x ∉ s1.ow
section
variable {N:Nat→Prop} {D:List Nat} {s1 s s':St} {cf:Callee}
theorem zhc{i:Nat}:clr D (.slot i)=true ↔ i∉D:=by simp[clr]
theorem Part.own(h:Part N D s1 s){L:Loc}(hL:∀i,L=.slot i->¬N i):L∈s1.ow ↔ L∈s.ow:=by
 rw[<-h.ow,wbw];cases L with
 |cell b o=>simp[clr]
 |slot i=>
  rw[zhc];constructor
  ·intro h1
   exact⟨h1,fun hD=>h.un i hD (hL i rfl) h1⟩
  ·exact(·.1)
theorem Part.cells(h:Part N D s1 s):s1.ow.filter zad=s.ow.filter zad:=by
 rw[<-h.ow,wcs];apply wct;intro L _;cases L<;>simp[clr,zad]
theorem zbg{d:Nat}(l:List Loc):(zac d l).filter (clr D)=zac d (l.filter (clr D)):=by
 unfold zac;rw[wcs,wcs];apply wct;intro L _;exact Bool.and_comm _ _
theorem zin(p:Loc->Bool)(l:List Loc):(l.filter p).filter (clr D)=(l.filter (clr D)).filter p:=by
 rw[wcs,wcs];apply wct;intro L _;exact Bool.and_comm _ _
theorem zdw{L:Loc}(h:clr D L=true)(l:List Loc):(L::l).filter (clr D)=L::l.filter (clr D):=by rw[wcv,if_pos h]
theorem zh8{b:Nat}:∀(o:Nat)(l:List PV),∀L∈za5 b o l,zad L=true
 |_,[],L,h=>by simp[za5]at h
 |o,p::r,L,h=>by
  simp only[za5]at h;split at h
  ·rcases waq.1 h with rfl|h
   ·rfl
   ·exact zh8 (o+1) r L h
  ·exact zh8 (o+1) r L h
theorem zio{b o:Nat}{l:List PV}(m:List Loc):(za5 b o l++m).filter (clr D)=za5 b o l++m.filter (clr D):=by
 rw[List.filter_append];congr 1;refine wcd.2 fun L hL=>?_
 have:=zh8 o l L hL;cases L with
 |slot i=>cases this
 |cell=>rfl
theorem zeg{d:Nat}{l:List Loc}{L:Loc}:L∈zac d l->L∈l:=fun h=>(wbw.1 h).1
theorem Part.mk'(h:Part N D s1 s){d:Nat}{v:PV}(hd:d∉D){ow1 ow:List Loc}{al:List (Nat×Loc)}{bx:zae}(how:ow1.filter (clr D)=ow)(hal:∀q∈al,q.1∉D/\clr D q.2=true)(hun:∀x,x∈D->¬N x->.slot x∉ow1):
 Part N D ⟨(d,v)::s1.sl,ow1,al,bx⟩ ⟨(d,v)::s.sl,ow,al,bx⟩:=
 ⟨fun x hx=>by simp only[za4];split;rfl;exact h.sl x hx,how,rfl,rfl,hal,hun⟩
theorem Part.mk0(h:Part N D s1 s){ow1 ow:List Loc}{al:List (Nat×Loc)}{bx:zae}(how:ow1.filter (clr D)=ow)(hal:∀q∈al,q.1∉D/\clr D q.2=true)(hun:∀x,x∈D->¬N x->.slot x∉ow1):
 Part N D ⟨s1.sl,ow1,al,bx⟩ ⟨s.sl,ow,al,bx⟩:=
 ⟨h.sl,how,rfl,rfl,hal,hun⟩
theorem Part.noDrop(h:Part N D s1 s)(d:Nat):∀q∈za8 d s.al,q.1∉D/\clr D q.2=true:=fun q hq=>h.no q (wbw.1 hq).1
theorem Part.put(h:Part N D s1 s){d:Nat}(hd:d∉D)(v:PV):Part N D (s1.put d v) (s.put d v):=by
 have:=h.mk' (v:=v) hd (ow1:=zac d s1.ow) (ow:=zac d s.ow) (al:=za8 d s.al) (bx:=s.bx) (by rw[zbg,h.ow]) (h.noDrop d) fun x h1 h2 h3=>h.un x h1 h2 (zeg h3)
 unfold St.put;rw[h.al,h.bx];exact this
theorem z1j{d:Nat}(hd:d∉D){l:List Loc}(h:∀x,x∈D->¬N x->.slot x∉l):∀x,x∈D->¬N x->.slot x∉(.slot d::l:List Loc):=fun x h1 h2 h3=>by
 rcases waq.1 h3 with e|h3
 ·cases e;exact hd h1
 ·exact h x h1 h2 h3
theorem yq6{b o:Nat}{l:List Loc}(h:∀x,x∈D->¬N x->.slot x∉l):∀x,x∈D->¬N x->.slot x∉(.cell b o::l:List Loc):=fun x h1 h2 h3=>by
 rcases waq.1 h3 with e|h3
 ·cases e
 ·exact h x h1 h2 h3
theorem yef{b o:Nat}{ps:List PV}{l:List Loc}(h:∀x,x∈D->¬N x->.slot x∉l):∀x,x∈D->¬N x->.slot x∉(za5 b o ps++l):=fun x h1 h2 h3=>by
 rcases wak.1 h3 with h3|h3
 ·have:=zh8 o ps _ h3;cases this
 ·exact h x h1 h2 h3
theorem Part.putOwn(h:Part N D s1 s){d:Nat}(hd:d∉D)(v:PV):Part N D (s1.putOwn d v) (s.putOwn d v):=by
 have:=h.mk' (v:=v) hd (ow1:=.slot d::zac d s1.ow) (ow:=.slot d::zac d s.ow) (al:=za8 d s.al) (bx:=s.bx) (by rw[zdw (zhc.2 hd),zbg,h.ow]) (h.noDrop d)
  (z1j hd fun x h1 h2 h3=>h.un x h1 h2 (zeg h3))
 unfold St.putOwn;rw[h.al,h.bx];exact this
theorem Part.putD(h:Part N D s1 s){d:Option Nat}(hd:∀x,d=some x->x∉D)(v:PV):Part N D (s1.putD d v) (s.putD d v):=by
 cases d with
 |none=>exact h
 |some d=>exact h.put (hd d rfl) v
theorem Part.callBx(h:Part N D s1 s){d:Option Nat}(hd:∀x,d=some x->x∉D){f:FuncId}{az:List PV}(hs:Nun.callBx cf s d f az=some s'):∃s1',Nun.callBx cf s1 d f az=some s1'/\Part N D s1' s':=by
 unfold Nun.callBx at hs⊢;rw[h.cells,h.bx];obtain⟨⟨vs,os,bx,oc⟩,h1,rfl⟩:=qm hs;rw[h1];refine⟨_,rfl,?_⟩;have hp:Part N D ⟨s1.sl,oc.filter zad++s1.ow.filter (fun L=>!zad L),s1.al.filter fun p=>!zad p.2,bx⟩ ⟨s.sl,oc.filter zad++s.ow.filter (fun L=>!zad L),s.al.filter fun p=>!zad p.2,bx⟩:=by
  rw[h.al];refine h.mk0 ?_ (fun q hq=>h.no q (wbw.1 hq).1) fun x h1 h2 h3=>?_
  ·rw[List.filter_append,zin (fun L=>!zad L),h.ow]
   congr 1;refine wcd.2 fun L hL=>?_
   have:=(wbw.1 hL).2;cases L with
   |slot i=>cases this
   |cell=>rfl
  ·rcases wak.1 h3 with h3|h3
   ·have:=(wbw.1 h3).2;cases this
   ·exact h.un x h1 h2 (wbw.1 h3).1
 cases d with
 |none=>exact hp
 |some d=>
  cases os
  ·exact hp.put (hd d rfl) _
  ·exact hp.putOwn (hd d rfl) _
theorem Part.callSt(h:Part N D s1 s){d:Option Nat}(hd:∀x,d=some x->x∉D){f:FuncId}{az:List PV}(hs:Nun.callSt cf s d f az=some s'):∃s1',Nun.callSt cf s1 d f az=some s1'/\Part N D s1' s':=by
 unfold Nun.callSt at hs⊢;split at hs
 ·rename_i hn
  rw[if_pos hn];obtain⟨⟨vs,os,bx,oc⟩,h1,h2⟩:=qb hs;rw[h1,wat];dsimp only at h2⊢;split at h2
  ·rename_i hv
   rw[if_pos hv];cases d with
   |none=>cases h2;exact⟨_,rfl,h⟩
   |some d=>
    cases os
    ·cases h2;exact⟨_,rfl,h.put (hd d rfl) _⟩
    ·cases h2;exact⟨_,rfl,h.putOwn (hd d rfl) _⟩
  ·rename_i hv
   rw[if_neg hv];exact h.callBx hd h2
 ·rename_i hn
  rw[if_neg hn];exact h.callBx hd hs
theorem Part.xev(h:Part N D s1 s){x:X}(hx:∀i∈x.slots,¬N i):x.ev s1.sl=x.ev s.sl:=z3z fun i hi=>h.sl i (hx i hi)
theorem Part.origin(h:Part N D s1 s){t:Nat}(ht:¬N t):Nun.origin s1 t=Nun.origin s t:=by
 unfold Nun.origin;have:=h.own (L:=.slot t) fun i e=>by cases e;exact ht
 simp only[this,h.al]
theorem Part.pvAt(h:Part N D s1 s)(hND:∀x,N x->x∈D){t:Nat}(ht:¬N t){L:Loc}(hL:Nun.origin s t=some L):Nun.pvAt s1 L=Nun.pvAt s L/\(L∈s1.ow ↔ L∈s.ow)/\∀i,L=.slot i->¬N i:=by
 have hn:∀i,L=.slot i->¬N i:=fun i e=>by
  unfold Nun.origin at hL;split at hL
  ·cases hL;cases e;exact ht
  ·obtain⟨q,h1,rfl⟩:=qm hL
   have:=(h.no q (List.mem_of_find?_eq_some h1)).2;rw[e,zhc]at this;exact fun hN=>this (hND i hN)
 refine⟨?_,h.own hn,hn⟩;cases L with
 |slot i=>simp only[Nun.pvAt];rw[h.sl i (hn i rfl)]
 |cell b o=>simp only[Nun.pvAt,h.bx]
def yq7:COp->Option Nat
 | .mvA s=>some s
 |_=>none
theorem ykg(h:Part N D s1 s)(hND:∀x,N x->x∈D){d:Option Nat}(hd:∀x,d=some x->x∉D){c:COp}(hr:∀x∈c.xs,∀i∈x.slots,¬N i)(ha:∀i,yq7 c=some i->i∉D)(hs:zaa cf s d c=some s'):∃s1',zaa cf s1 d c=some s1'/\Part N D s1' s':=by
 have hx:∀x∈c.xs,x.ev s1.sl=x.ev s.sl:=fun x hx=>h.xev (hr x hx)
 by_cases hp:zgx c=true
 ·rw[zdk hp]at hs⊢
  rw[zlj hx];obtain⟨p,h1,rfl⟩:=qm hs;rw[h1];exact⟨_,rfl,h.putD hd p⟩
 cases c<;>try (exact absurd rfl hp)
 case mvA x=>
  simp only[zaa]at hs⊢;obtain⟨d,rfl,h2⟩:=qb hs;split at h2
  ·cases h2
  ·rename_i hxd
   cases h2;have hlx:look s1.sl x=look s.sl x:=hx (.t x) (by simp[COp.xs]);refine⟨_,by rw[wat,if_neg hxd],?_⟩;unfold St.put;dsimp only;rw[hlx,h.al,h.bx];refine h.mk' (hd d rfl) (by rw[zbg,h.ow]) (fun q hq=>?_) fun y h1 h2 h3=>h.un y h1 h2 (zeg h3)
   rcases waq.1 hq with rfl|hq
   ·exact⟨hd d rfl,zhc.2 (ha x rfl)⟩
   ·exact h.noDrop d q hq
 case asg x=>
  cases x with
  |c v=>exact absurd rfl hp
  |t i=>
   have hi:¬N i:=hr (.t i) (by simp[COp.xs]) i (by simp[X.slots]);have hlx:look s1.sl i=look s.sl i:=h.sl i hi;have hown:=h.own (L:=.slot i) fun j e=>by cases e;exact hi
   simp only[zaa]at hs⊢;cases d with
   |none=>cases hs
   |some d=>
    dsimp only at hs⊢;split at hs
    ·cases hs
    ·rename_i hid
     rw[if_neg hid];split at hs
     ·rename_i ho
      cases hs;rw[if_pos (hown.2 ho)];refine⟨_,rfl,?_⟩;rw[hlx,h.al,h.bx];refine h.mk' (hd d rfl) (by rw[zdw (zhc.2 (hd d rfl)),zbg,zbg,h.ow]) (fun q hq=>h.no q (wbw.1 (wbw.1 hq).1).1) (z1j (hd d rfl) fun y h1 h2 h3=>h.un y h1 h2 (zeg (zeg h3)))
     ·rename_i ho
      cases hs;rw[if_neg fun k=>ho (hown.1 k),hlx];exact⟨_,rfl,h.put (hd d rfl) _⟩
 case alloc e zs=>
  simp only[zaa]at hs⊢;obtain⟨d,rfl,rfl⟩:=qm hs;refine⟨_,rfl,?_⟩;unfold St.put;dsimp only;rw[h.al,h.bx];exact h.mk' (hd d rfl) (by rw[zio,zbg,h.ow]) (h.noDrop d) (yef fun y h1 h2 h3=>h.un y h1 h2 (zeg h3))
 case box e n x=>
  have hxx:=hx x (by simp[COp.xs]);simp only[zaa]at hs⊢;obtain⟨d,rfl,h2⟩:=qb hs;split at h2
  ·rename_i hc
   cases h2;refine⟨_,by rw[wat,hxx,if_pos hc],?_⟩;unfold St.put;dsimp only;rw[h.al,h.bx];exact h.mk' (hd d rfl) (by rw[zio,zbg,h.ow]) (h.noDrop d) (yef fun y h1 h2 h3=>h.un y h1 h2 (zeg h3))
  ·cases h2
 case mksl by0 n size zs ps=>
  simp only[zaa]at hs⊢;obtain⟨d,rfl,h2⟩:=qb hs;obtain⟨cs,h1,h3⟩:=qb h2;have:(ps.map fun q=>(q.1,q.2.1,q.2.2.ev s1.sl))=ps.map fun q=>(q.1,q.2.1,q.2.2.ev s.sl):=wbm fun q hq=>by rw[hx q.2.2 (wbv.2 ⟨q,hq,rfl⟩)]
  split at h3
  ·rename_i hc
   cases h3;refine⟨_,by rw[wat,this,h1,wat,if_pos hc],h.putOwn (hd d rfl) _⟩
  ·cases h3
 case b2s x=>
  simp only[zaa]at hs⊢;obtain⟨p,h1,rfl⟩:=qm hs;rw[hx x (by simp[COp.xs]),h.bx,h1];exact⟨_,rfl,h.putD hd p⟩
 case load ag n x=>
  simp only[zaa]at hs⊢;obtain⟨d,rfl,h2⟩:=qb hs;obtain⟨p,h1,rfl⟩:=qm h2;rw[hx x (by simp[COp.xs]),h.bx,h1];exact⟨_,rfl,h.put (hd d rfl) p⟩
 case loadA x=>
  have hxx:=hx x (by simp[COp.xs]);simp only[zaa]at hs⊢;obtain⟨d,rfl,h2⟩:=qb hs;split at h2
  ·rename_i b o e
   obtain⟨p,h1,rfl⟩:=qm h2;rw[hxx,e,h.bx];refine⟨_,by simp only[wat,h1,wau];rfl,?_⟩;unfold St.put;dsimp only;rw[h.al,h.bx];refine h.mk' (hd d rfl) (by rw[zbg,h.ow]) (fun q hq=>?_) fun y h1 h2 h3=>h.un y h1 h2 (zeg h3)
   rcases waq.1 hq with rfl|hq
   ·exact⟨hd d rfl,rfl⟩
   ·exact h.noDrop d q hq
  ·cases h2
 case loadM x=>
  have hxx:=hx x (by simp[COp.xs]);simp only[zaa]at hs⊢;obtain⟨d,rfl,h2⟩:=qb hs;split at h2
  ·rename_i b o e
   obtain⟨p,h1,h2⟩:=qb h2;split at h2
   case isFalse=>cases h2
   rename_i hc;cases h2;rw[hxx,e,h.bx];refine⟨_,by simp only[wat,h1];rw[if_pos ((h.own (L:=.cell b o) fun i e=>by cases e).2 hc)],?_⟩;unfold St.put;dsimp only;rw[h.bx];refine h.mk' (hd d rfl) (by rw[zdw (zhc.2 (hd d rfl)),zin,zbg,h.ow]) (fun q hq=>by cases hq) fun y h1 h2 h3=>?_
   rcases waq.1 h3 with h3|h3
   ·cases h3;exact hd _ rfl h1
   ·exact h.un y h1 h2 (zeg (wbw.1 h3).1)
  ·cases h2
 case store n a x=>
  have hxa:=hx a (by simp[COp.xs]);have hxx:=hx x (by simp[COp.xs]);simp only[zaa]at hs⊢;split at hs
  ·rename_i b o e
   rw[hxa,hxx,h.bx]
   try rw[e]
   try dsimp only
   obtain⟨q,h1,h2⟩:=qb hs;rw[h1,wat];split at h2
   ·rename_i hc
    rw[if_pos hc];have halq:∀q∈s.al.filter (fun p=>!ze0 b o n p.2),q.1∉D/\clr D q.2=true:=fun q hq=>h.no q (wbw.1 hq).1
    have how:(za5 b o (x.ev s.sl).cells++s1.ow.filter fun L=>!ze0 b o n L).filter (clr D)=za5 b o (x.ev s.sl).cells++s.ow.filter fun L=>!ze0 b o n L:=by rw[zio,zin,h.ow]
    have hun:∀y,y∈D->¬N y->.slot y∉(za5 b o (x.ev s.sl).cells++s1.ow.filter fun L=>!ze0 b o n L):=yef fun y h1 h2 h3=>h.un y h1 h2 (wbw.1 h3).1
    cases x with
    |c v=>
     cases h2;refine⟨_,rfl,?_⟩;rw[h.al];exact h.mk0 how halq hun
    |t i=>
     have hi:¬N i:=hr (.t i) (by simp[COp.xs]) i (by simp[X.slots]);have hown:=h.own (L:=.slot i) fun j e=>by cases e;exact hi
     dsimp only at h2⊢;split at h2
     ·rename_i ho
      cases h2;rw[if_pos (hown.2 ho)];refine⟨_,rfl,?_⟩;rw[h.al];exact h.mk0 (by rw[zdw rfl,zbg,how]) (fun q hq=>halq q (wbw.1 hq).1) (yq6 fun y h1 h2 h3=>hun y h1 h2 (zeg h3))
     ·rename_i ho
      cases h2;rw[if_neg fun k=>ho (hown.1 k)];refine⟨_,rfl,?_⟩;rw[h.al];exact h.mk0 how halq hun
   ·cases h2
  ·cases hs
 case append by0 size x y=>
  have hxx:=hx x (by simp[COp.xs]);have hxy:=hx y (by simp[COp.xs]);simp only[zaa]at hs⊢;rw[hxx,hxy];split at hs
  ·rename_i hn
   rw[if_pos hn];split at hs
   ·rename_i m ds e
    try rw[e]
    try dsimp only
    split at hs
    ·rename_i hc
     rw[if_pos hc];obtain⟨d,rfl,rfl⟩:=qm hs;refine⟨_,rfl,?_⟩;dsimp only;split
     ·exact h.put (hd d rfl) _
     ·exact h.putOwn (hd d rfl) _
    ·cases hs
   ·cases hs
  ·rename_i hn
   rw[if_neg hn];cases x with
   |c v=>cases hs
   |t i=>
    have hi:¬N i:=hr (.t i) (by simp[COp.xs]) i (by simp[X.slots]);dsimp only at hs⊢;obtain⟨L,h1,hs⟩:=qb hs;obtain⟨d,rfl,hs⟩:=qb hs;obtain⟨k1,k2,k3⟩:=h.pvAt hND hi h1;rw[h.origin hi,h1,wat,wat,k1];split at hs
    ·rename_i n cs m ds e1 e2
     try rw[e1,e2]
     try dsimp only
     split at hs
     ·rename_i hc
      cases hs;obtain⟨c1,c2,c3,c4,c5⟩:=hc;refine⟨_,by rw[if_pos ⟨c1,c2,c3,k2.2 c4,c5⟩],?_⟩;rw[h.al,h.bx];exact h.mk' (hd d rfl) (by rw[zdw (zhc.2 (hd d rfl)),zbg,zin,h.ow]) (fun q hq=>h.no q (wbw.1 (wbw.1 hq).1).1) (z1j (hd d rfl) fun y h1 h2 h3=>h.un y h1 h2 (wbw.1 (zeg h3)).1)
     ·cases hs
    ·cases hs
 case appendS x y=>
  have hxx:=hx x (by simp[COp.xs]);have hxy:=hx y (by simp[COp.xs]);simp only[zaa]at hs⊢;rw[hxx,hxy];split at hs
  ·rename_i hn
   rw[if_pos hn];split at hs
   ·rename_i z e
    try rw[e]
    try dsimp only
    split at hs
    ·rename_i hc
     rw[if_pos hc];obtain⟨d,rfl,rfl⟩:=qm hs;refine⟨_,rfl,?_⟩;dsimp only;split
     ·exact h.put (hd d rfl) _
     ·exact h.putOwn (hd d rfl) _
    ·cases hs
   ·cases hs
  ·rename_i hn
   rw[if_neg hn];cases x with
   |c v=>cases hs
   |t i=>
    have hi:¬N i:=hr (.t i) (by simp[COp.xs]) i (by simp[X.slots]);dsimp only at hs⊢;obtain⟨L,h1,hs⟩:=qb hs;obtain⟨d,rfl,hs⟩:=qb hs;obtain⟨k1,k2,k3⟩:=h.pvAt hND hi h1;rw[h.origin hi,h1,wat,wat,k1];split at hs
    ·rename_i n cs z e1 e2
     try rw[e1,e2]
     try dsimp only
     split at hs
     ·rename_i hc
      cases hs;obtain⟨c1,c2,c3,c4⟩:=hc;refine⟨_,by rw[if_pos ⟨c1,c2,k2.2 c3,c4⟩],?_⟩;rw[h.al,h.bx];exact h.mk' (hd d rfl) (by rw[zdw (zhc.2 (hd d rfl)),zbg,zin,h.ow]) (fun q hq=>h.no q (wbw.1 (wbw.1 hq).1).1) (z1j (hd d rfl) fun y h1 h2 h3=>h.un y h1 h2 (wbw.1 (zeg h3)).1)
     ·cases hs
    ·cases hs
 case call f args=>
  have:(args.map fun x=>(x.ev s1.sl).weak)=args.map fun x=>(x.ev s.sl).weak:=wbm fun x h=>by rw[hx x h]
  simp only[zaa]at hs⊢;rw[this];exact h.callSt hd hs
 case callv g args=>
  have:(args.map fun x=>(x.ev s1.sl).weak)=args.map fun x=>(x.ev s.sl).weak:=wbm fun x h=>by rw[hx x (wcw _ h)]
  simp only[zaa]at hs⊢;rw[this,hx g (by simp[COp.xs])];split at hs
  ·rename_i f caps e
   try rw[e]
   try dsimp only
   split at hs
   ·cases hs
   ·rename_i hf
    rw[if_neg hf];exact h.callSt hd hs
  ·rename_i b e
   try rw[e]
   exact h.callBx hd hs
  ·cases hs
theorem frame(h:Part N D s1 s)(hND:∀x,N x->x∈D){o:COper}(hd:∀x,o.dst=some x->x∉D)(hr:∀i∈o.reads,¬N i)(ha:∀i,yq7 o.op=some i->i∉D)(hs:stepG cf s o=some s'):∃s1',stepG cf s1 o=some s1'/\Part N D s1' s':=by
 have hg:zej s1 o.g=zej s o.g:=by
  cases hq:o.g with
  |none=>rfl
  |some q=>
   obtain⟨i,w⟩:=q;simp only[zej];rw[h.sl i (hr i (by simp[COper.reads,hq]))]
 unfold stepG at hs⊢;rw[hg];obtain⟨b,h1,h2⟩:=qb hs;rw[h1,wat];cases b with
 |false=>
  simp only[wbf,if_false,war]at h2⊢;subst h2;exact⟨_,rfl,h.putD hd _⟩
 |true=>
  simp only[if_true]at h2⊢;exact ykg h hND hd (fun x hx i hi=>hr i (by simp only[COper.reads];exact wak.2 (.inl (wce.2 ⟨x,hx,hi⟩)))) ha h2
end
def memK:COp->Bool
 | .load ..=>true
 |_=>false
def z30(qs:List FuncId):COp->Bool
 | .call f _=>qs.contains f
 |_=>false
def preK(qs:List FuncId)(c:COp):Bool:=zgx c||(memK c||z30 qs c)
def z9k:COp->Bool
 | .store .. | .call .. | .callv .. | .alloc .. | .box .. | .loadA .. | .loadM .. | .append .. | .appendS ..=>true
 |_=>false
def wrK:COp->Bool
 | .store .. | .call .. | .callv ..=>true
 |_=>false
section
variable {cf:Callee} {st st' stk:St}
def ykh(st st2:St)(c:COp):Prop:=(memK c=true->∃z,st2.bx=st.bx++z)/\(zgx c=false->memK c=false->st2.bx=st.bx/\st2.ow.filter zad=st.ow.filter zad/\∀q∈st2.al,zad q.2=false)
structure Says (s s':St):Prop where
 sl:∀ x,look s'.sl x=look s.sl x
 ow:∀ L,L∈s.ow→L∈s'.ow
 al:∀ q,q∈s.al→q∈s'.al
 bx:s'.bx=s.bx
theorem Says.rfl'(s:St):Says s s:=⟨fun _=>rfl,fun _ h=>h,fun _ h=>h,rfl⟩
theorem zvy{d:Nat}{f:FuncId}{az:List PV}{st2:St}(h:callBx cf st (some d) f az=some st')(hb:st'.bx=st.bx)(hc:st'.ow.filter zad=st.ow.filter zad)(h1:st2.bx=st.bx)(h2:st2.ow.filter zad=st.ow.filter zad)(h3:∀q∈st2.al,zad q.2=false):
 ∃s',callBx cf st2 (some d) f az=some s'/\Says (st2.put d (look st'.sl d)) s':=by
 unfold callBx at h⊢;rw[h1,h2];obtain⟨⟨vs,os,bx,oc⟩,k1,rfl⟩:=qm h;rw[k1];refine⟨_,rfl,?_⟩;have hbx:bx=st.bx:=by cases os<;>exact hb
 have hoc:oc.filter zad=st.ow.filter zad:=by
  rw[<-hc];have e1:∀l:List Loc,(zac d l).filter zad=l.filter zad:=fun l=>by
   unfold zac;rw[wcs];apply wct;intro L _;cases L<;>simp[zad,ment]
  have e2:(oc.filter zad++st.ow.filter (fun L=>!zad L)).filter zad=oc.filter zad:=by
   rw[List.filter_append,wcs,wcs];have:st.ow.filter (fun L=>zad L&& !zad L)=[]:=List.filter_eq_nil_iff.2 fun L _=>by simp
   rw[this,wcf];apply wct;intro L _;simp
  cases os
  ·show _=(zac d _).filter zad
   rw[e1,e2]
  ·show _=(.slot d::zac d _:List Loc).filter zad
   rw[wcv,if_neg (by simp[zad]),e1,e2]
 have how:∀L,L∈zac d st2.ow->L∈zac d (oc.filter zad++st2.ow.filter fun L=>!zad L):=fun L hL=>by
  unfold zac at hL⊢;obtain⟨m1,m2⟩:=wbw.1 hL;refine wbw.2 ⟨wak.2 ?_,m2⟩;cases hcL:zad L with
  |true=>left;rw[hoc,<-h2];exact wbw.2 ⟨m1,hcL⟩
  |false=>right;exact wbw.2 ⟨m1,by rw[hcL];rfl⟩
 have hal:∀q,q∈za8 d st2.al->q∈za8 d (st2.al.filter fun p=>!zad p.2):=fun q hq=>by
  unfold za8 at hq⊢;obtain⟨m1,m2⟩:=wbw.1 hq;exact wbw.2 ⟨wbw.2 ⟨m1,by rw[h3 q m1];rfl⟩,m2⟩
 cases os
 ·exact⟨fun x=>by simp[St.put,za4],how,hal,by simp only[St.put];rw[hbx,h1];rfl⟩
 ·exact⟨fun x=>by simp[St.put,St.putOwn,za4],fun L hL=>wcw _ (how L hL),hal,by simp only[St.put,St.putOwn];rw[hbx,h1];rfl⟩
theorem z7a{d:Nat}{f:FuncId}{az:List PV}{st2:St}(h:callSt cf st (some d) f az=some st')(hb:st'.bx=st.bx)(hc:st'.ow.filter zad=st.ow.filter zad)(h1:st2.bx=st.bx)(h2:st2.ow.filter zad=st.ow.filter zad)(h3:∀q∈st2.al,zad q.2=false):
 ∃s',callSt cf st2 (some d) f az=some s'/\Says (st2.put d (look st'.sl d)) s':=by
 unfold callSt at h⊢;split at h
 ·rename_i hn
  rw[if_pos hn];obtain⟨⟨vs,os,bx,oc⟩,k1,k2⟩:=qb h;rw[k1,wat];dsimp only at k2⊢;split at k2
  ·rename_i hv
   rw[if_pos hv];refine⟨_,rfl,?_⟩;cases k2;cases os
   ·exact⟨fun x=>by simp[St.put,za4],fun L h=>h,fun q h=>h,rfl⟩
   ·exact⟨fun x=>by simp[St.put,St.putOwn,za4],fun L h=>wcw _ h,fun q h=>h,rfl⟩
  ·rename_i hv
   rw[if_neg hv];exact zvy k2 hb hc h1 h2 h3
 ·rename_i hn
  rw[if_neg hn];exact zvy h hb hc h1 h2 h3
theorem yeg{qs:List FuncId}{o:COper}{d:Nat}(hk:preK qs o.op=true)(hd:o.dst=some d)(h:zd6 cf st o=some st'):
 ∃p,st'=st.put d p/\∀st2:St,(∀x∈o.reads,look st2.sl x=look st.sl x)->ykh st st2 o.op->∃s',stepG cf st2 o=some s'/\Says (st2.put d p) s':=by
 obtain⟨dst,g,c⟩:=o;dsimp only at hk hd;subst hd;have hg2:∀b,zej st g=some b->∀st2:St,(∀s∈(COper.mk (some d) g c).reads,look st2.sl s=look st.sl s)->zej st2 g=some b:=fun b hb st2 h=>by
  rw[<-hb];cases g with
  |none=>rfl
  |some q=>
   obtain⟨s,want⟩:=q;simp only[zej];rw[h s (by simp[COper.reads])]
 have hx:∀st2:St,(∀s∈(COper.mk (some d) g c).reads,look st2.sl s=look st.sl s)->∀x∈c.xs,x.ev st2.sl=x.ev st.sl:=fun st2 h=>zvw fun s hs=>h s (by simp only[COper.reads];exact wak.2 (.inl hs))
 by_cases hp:zgx c=true
 ·have hs:stepG cf st ⟨some d,g,c⟩=some st':=by
   unfold zd6 at h;cases c<;>first|exact h|(cases hp;done)
  unfold stepG at hs;obtain⟨b,hb,h2⟩:=qb hs;dsimp only at hb h2;cases b with
  |false=>
   simp only[wbf,if_false,war]at h2;subst h2;exact⟨.tup [],rfl,fun st2 hr _=>⟨_,by unfold stepG;simp only[hg2 _ hb st2 hr,wat,wbf,if_false];rfl,Says.rfl' _⟩⟩
  |true=>
   simp only[if_true]at h2;rw[zdk hp]at h2;obtain⟨p,h3,rfl⟩:=qm h2;refine⟨p,rfl,fun st2 hr _=>⟨st2.put d p,?_,Says.rfl' _⟩⟩;unfold stepG;simp only[hg2 _ hb st2 hr,wat,if_true,zdk hp,zlj (hx st2 hr),h3];rfl
 ·have hp':zgx c=false:=by simpa using hp
  unfold preK at hk;rw[hp']at hk;simp only[wcx,wcc]at hk;rcases hk with hm|hq
  ·cases c<;>try (cases hm;done)
   case load ag n x=>
    have hs:stepG cf st ⟨some d,g,.load ag n x⟩=some st':=h;unfold stepG at hs;obtain⟨b,hb,h2⟩:=qb hs;dsimp only at hb h2;cases b with
    |false=>
     simp only[wbf,if_false,war]at h2;subst h2;exact⟨.tup [],rfl,fun st2 hr _=>⟨_,by unfold stepG;simp only[hg2 _ hb st2 hr,wat,wbf,if_false];rfl,Says.rfl' _⟩⟩
    |true=>
     simp only[if_true,zaa,wat]at h2;obtain⟨p,h3,rfl⟩:=qm h2;refine⟨p,rfl,fun st2 hr hz=>⟨st2.put d p,?_,Says.rfl' _⟩⟩;obtain⟨z,hz⟩:=hz.1 rfl;unfold stepG;simp only[hg2 _ hb st2 hr,wat,if_true,zaa,hx st2 hr x (by simp[COp.xs]),hz,zy9 z h3,wau]
  ·cases c<;>try (cases hq;done)
   case call f args=>
    unfold zd6 at h;dsimp only at h;obtain⟨s',hs,h⟩:=qb h;split at h
    case isFalse=>cases h
    rename_i hqq;cases h;obtain⟨hb1,hc1⟩:=hqq;refine⟨_,rfl,fun st2 hr hz=>?_⟩;obtain⟨z1,z2,z3⟩:=hz.2 rfl rfl;unfold stepG at hs⊢;obtain⟨b,hb,h2⟩:=qb hs;dsimp only at hb h2⊢;rw[hg2 _ hb st2 hr,wat];cases b with
    |false=>
     simp only[wbf,if_false,war]at h2⊢;subst h2;refine⟨_,rfl,⟨fun x=>by simp[St.putD,St.put,za4],fun L h=>h,fun q h=>h,rfl⟩⟩
    |true=>
     simp only[if_true,zaa]at h2⊢;have:(args.map fun x=>(x.ev st2.sl).weak)=args.map fun x=>(x.ev st.sl).weak:=wbm fun x h=>by rw[hx st2 hr x h]
     rw[this];exact z7a h2 hb1 hc1 z1 z2 z3
theorem z31{qs:List FuncId}{D:List Nat}:∀(l:List COper)(st stk:St),evQ cf l st=some stk->l.Pairwise (fun o o'=>∀d,o'.dst=some d->d∉o.reads/\o.dst≠some d)->(∀o∈l,preK qs o.op=true/\o.dst.isSome=true/\∀d,o.dst=some d->d∉o.reads)->(∀d,d∈D ↔ ∃o∈l,o.dst=some d)->st.al=[]->
 stk.bx=st.bx/\stk.al=[]/\(∀L,L∈stk.ow ↔ L∈st.ow/\clr D L=true)/\stk.ow=st.ow.filter (clr D)/\(∀x,x∉D->look stk.sl x=look st.sl x)/\
 ∀o∈l,∀d,o.dst=some d->∀st2:St,(∀x∈o.reads,look st2.sl x=look stk.sl x)->ykh stk st2 o.op->∃s',stepG cf st2 o=some s'/\Says (st2.put d (look stk.sl d)) s'
 |[],st,stk,h,_,_,hD,hal=>by
  simp only[evQ,war]at h;subst h;have hD0:∀d,d∉D:=fun d hd=>by obtain⟨o,ho,_⟩:=(hD d).1 hd;cases ho
  have hcl:∀L,clr D L=true:=fun L=>by
   cases L with
   |slot i=>exact zhc.2 (hD0 i)
   |cell=>rfl
  exact⟨rfl,hal,fun L=>by simp[hcl L],(wcd.2 fun L _=>hcl L).symm,fun x _=>rfl,fun o ho=>by cases ho⟩
 |o::l,st,stk,h,hp,hk,hD,hal=>by
  simp only[evQ]at h;obtain⟨s1,h1,h2⟩:=qb h;obtain⟨hk1,hk2,hself⟩:=hk o wcy;obtain⟨d,hd⟩:=wck.1 hk2;obtain⟨p,rfl,hloc⟩:=yeg hk1 hd h1;rw[List.pairwise_cons]at hp;obtain⟨D',hD'⟩:∃D':List Nat,D'=l.filterMap (·.dst):=⟨_,rfl⟩;have hD2:∀x,x∈D' ↔ ∃o∈l,o.dst=some x:=fun x=>by rw[hD',wcq]
  have hal2:(st.put d p).al=[]:=by simp[St.put,hal,za8]
  obtain⟨k1,k2,k3,k4,k5,k6⟩:=z31 (D:=D') l _ stk h2 hp.2 (fun o ho=>hk o (wcw _ ho)) hD2 hal2;have hDd:∀x,x∈D ↔ x=d\/x∈D':=fun x=>by
   rw[hD x,hD2 x];constructor
   ·rintro⟨q,hq,e⟩
    rcases waq.1 hq with rfl|hq
    ·rw[hd]at e;cases e;exact .inl rfl
    ·exact .inr ⟨q,hq,e⟩
   ·rintro(rfl|⟨q,hq,e⟩)
    ·exact⟨o,wcy,hd⟩
    ·exact⟨q,wcw _ hq,e⟩
  have hdn:d∉D':=fun hm=>by
   obtain⟨q,hq,e⟩:=(hD2 d).1 hm;exact(hp.1 q hq d e).2 hd
  have hclr:∀L,clr D L=(clr D' L&& !ment d L):=fun L=>by
   cases L with
   |cell=>rfl
   |slot i=>
    simp only[clr,ment];have:=hDd i;by_cases h1:i=d<;>by_cases h2:i∈D'<;>simp[h1,h2,this]<;>simp_all
  have hlk:look stk.sl d=p:=by rw[k5 d hdn];simp[St.put,za4]
  refine⟨k1,k2,fun L=>?_,?_,fun x hx=>?_,fun q hq=>?_⟩
  ·rw[k3,hclr]
   simp only[St.put,zac,wbw,wb1];exact⟨fun⟨⟨a,b⟩,c⟩=>⟨a,c,b⟩,fun⟨a,c,b⟩=>⟨⟨a,b⟩,c⟩⟩
  ·rw[k4]
   simp only[St.put,zac,wcs];apply wct;intro L _;exact(hclr L).symm
  ·have h3:x≠d/\x∉D':=⟨fun e=>hx ((hDd x).2 (.inl e)),fun e=>hx ((hDd x).2 (.inr e))⟩
   rw[k5 x h3.2];simp only[St.put,za4];rw[if_neg (was h3.1)]
  ·rcases waq.1 hq with rfl|hq
   ·intro d' hd' st2 hr hz
    rw[hd]at hd';cases hd';rw[hlk];refine hloc st2 (fun x hx=>?_) ⟨fun hm=>?_,fun hm1 hm2=>?_⟩
    ·rw[hr x hx]
     have hxD:x∉D':=fun hm=>by
      obtain⟨o',ho',e⟩:=(hD2 x).1 hm;exact(hp.1 o' ho' x e).1 hx
     rw[k5 x hxD];simp only[St.put,za4];rw[if_neg (fun e:d=x=>hself d hd (by rw[e];exact hx))]
    ·rw[<-show stk.bx=st.bx from k1];exact hz.1 hm
    ·obtain⟨z1,z2,z3⟩:=hz.2 hm1 hm2
     refine⟨by rw[z1];exact k1,?_,z3⟩;rw[z2,k4,wcs];simp only[St.put,zac];rw[wcs];apply wct;intro L _;cases L<;>simp[zad,clr,ment]
   ·exact k6 q hq
end
instance:Inhabited COper:=⟨⟨none,none,.alloc 0 []⟩⟩
def mkA(g:Nat->BT)(cs:List COper):List Nat->BT
 |[]=>.done
 |[j]=>.one (cs.getD j default) (g j)
 |j::k::r=>.two (cs.getD j default) (g j) (mkA g cs (k::r))
def z32(n:Nat)(an:List (List Nat))(ps dn:List Nat):List Nat:=(List.range n).filter fun j=>!ps.contains j&&(!dn.contains j&&(an.getD j []).all fun x=>ps.contains x||dn.contains x)
def mkT(n:Nat)(an:List (List Nat))(ps:List Nat)(cs:List COper):Nat->List Nat->BT
 |0,_=>.done
 |f+1,dn=>mkA (fun j=>mkT n an ps cs f (j::dn)) cs (z32 n an ps dn)
def atD(cs:List COper)(i:Nat):COper:=cs.getD i default
def yki(qs:List FuncId)(ops:Array Oper)(cs:List COper)(ps:List Nat):Bool:=
 let an:=ancs ops
 let n:=ops.size
 cs.length==n&&
 (List.range n).all (fun i=>(zdl ops i).all (·<i))&&
 ps.all (fun i=>decide (i<n)&&(preK qs (atD cs i).op&&(atD cs i).dst.isSome))&&
 ps.all (fun i=>(List.range n).all fun j=>i==j||(atD cs j).dst !=(atD cs i).dst)&&
 (List.range n).all (fun i=>(atD cs i).reads.all fun s=>ps.all fun j=>(atD cs j).dst !=some s||(decide (j<i)&&(an.getD i []).contains j))&&
 ps.all (fun i=>(atD cs i).reads.all fun s=>(List.range n).all fun j=>(atD cs j).dst !=some s||(ps.contains j||(an.getD j []).contains i))&&
 ps.all (fun i=>!memK (atD cs i).op||(List.range n).all fun j=>!wrK (atD cs j).op||(ps.contains j||(an.getD j []).contains i))&&
 ps.all (fun i=>!z30 qs (atD cs i).op||(List.range n).all fun j=>!z9k (atD cs j).op||(ps.contains j||(an.getD j []).contains i))&&
 (List.range n).all (fun j=>ps.contains j||(match yq7 (atD cs j).op with|some s=>ps.all fun i=>(atD cs i).dst !=some s|none=>true))&&
 decide (ps.Pairwise (·<·))
section
variable {P:Program} {w w':World} {r:Option Nat} {a a':Act} {cf:Callee} {Γ:Glob} {S:S0}
theorem zqw{α:Type}{a b:Option α}{x:α}(h:same a b=some x):a=some x/\b=some x:=by
 unfold same at h;split at h
 ·rename_i e;exact⟨h,e▸h⟩
 ·cases h
theorem yeh{live:List Nat}{g:Nat->BT}{cs:List COper}{s F:St}:∀(l:List Nat),evT cf live (mkA g cs l) s=some F->∀j∈l,∃s',stepG cf s (atD cs j)=some s'/\evT cf live (g j) s'=some F
 |[],_,j,hj=>by cases hj
 |[i],h,j,hj=>by
  simp only[mkA,evT]at h;obtain rfl:j=i:=by simpa using hj
  exact qb h
 |i::k::l,h,j,hj=>by
  simp only[mkA,evT]at h;obtain⟨h1,h2⟩:=zqw h;rcases waq.1 hj with rfl|hj
  ·exact qb h1
  ·exact yeh (k::l) h2 j hj
theorem ywt{s s':St}{d:Option Nat}{c:COp}(hw:wrK c=false)(h:zaa cf s d c=some s'):∃z,s'.bx=s.bx++z:=by
 have put:∀(d:Option Nat) v,(s.putD d v).bx=s.bx++[]:=fun d v=>by cases d<;>simp[St.putD,St.put]
 by_cases hp:zgx c=true
 ·rw[zdk hp]at h
  obtain⟨p,_,rfl⟩:=qm h;exact⟨[],put d p⟩
 cases c<;>try (exact absurd rfl hp)
 case mvA x=>
  simp only[zaa]at h;obtain⟨d,rfl,h2⟩:=qb h;split at h2
  ·cases h2
  ·cases h2;exact⟨[],by simp[St.put]⟩
 case asg x=>
  cases x with
  |c v=>exact absurd rfl hp
  |t i=>
   simp only[zaa]at h;cases d with
   |none=>cases h
   |some d=>
    dsimp only at h;split at h
    ·cases h
    ·split at h<;>(cases h;exact⟨[],by simp[St.put]⟩)
 case alloc e zs=>
  simp only[zaa]at h;obtain⟨d,rfl,rfl⟩:=qm h;exact⟨_,rfl⟩
 case box e n x=>
  simp only[zaa]at h;obtain⟨d,rfl,h2⟩:=qb h;split at h2
  ·cases h2;exact⟨_,rfl⟩
  ·cases h2
 case mksl by0 n size zs ps=>
  simp only[zaa]at h;obtain⟨d,rfl,h2⟩:=qb h;obtain⟨cs,h1,h3⟩:=qb h2;split at h3
  ·cases h3;exact⟨[],by simp[St.putOwn]⟩
  ·cases h3
 case b2s x=>
  simp only[zaa]at h;obtain⟨p,h1,rfl⟩:=qm h;exact⟨[],put d p⟩
 case load ag n x=>
  simp only[zaa]at h;obtain⟨d,rfl,h2⟩:=qb h;obtain⟨p,h1,rfl⟩:=qm h2;exact⟨[],by simp[St.put]⟩
 case loadA x=>
  simp only[zaa]at h;obtain⟨d,rfl,h2⟩:=qb h;split at h2
  ·obtain⟨p,h1,rfl⟩:=qm h2
   exact⟨[],by simp[St.put]⟩
  ·cases h2
 case loadM x=>
  simp only[zaa]at h;obtain⟨d,rfl,h2⟩:=qb h;split at h2
  ·obtain⟨p,h1,h2⟩:=qb h2
   split at h2
   ·cases h2;exact⟨[],by simp[St.put]⟩
   ·cases h2
  ·cases h2
 case store=>cases hw
 case append by0 size x y=>
  simp only[zaa]at h;split at h
  ·split at h
   ·split at h
    ·obtain⟨d,rfl,rfl⟩:=qm h
     refine⟨[],?_⟩;split<;>simp[St.put,St.putOwn]
    ·cases h
   ·cases h
  ·split at h
   ·obtain⟨L,h1,h⟩:=qb h
    obtain⟨d,rfl,h⟩:=qb h;split at h
    ·split at h
     ·cases h;exact⟨[],by simp⟩
     ·cases h
    ·cases h
   ·cases h
 case appendS x y=>
  simp only[zaa]at h;split at h
  ·split at h
   ·split at h
    ·obtain⟨d,rfl,rfl⟩:=qm h
     refine⟨[],?_⟩;split<;>simp[St.put,St.putOwn]
    ·cases h
   ·cases h
  ·split at h
   ·obtain⟨L,h1,h⟩:=qb h
    obtain⟨d,rfl,h⟩:=qb h;split at h
    ·split at h
     ·cases h;exact⟨[],by simp⟩
     ·cases h
    ·cases h
   ·cases h
 case call=>cases hw
 case callv=>cases hw
theorem ykj{s s':St}{o:COper}(hw:wrK o.op=false)(h:stepG cf s o=some s'):∃z,s'.bx=s.bx++z:=by
 unfold stepG at h;obtain⟨b,h1,h2⟩:=qb h;cases b with
 |false=>
  simp only[wbf,if_false,war]at h2;subst h2;exact⟨[],by cases o.dst<;>simp[St.putD,St.put]⟩
 |true=>simp only[if_true]at h2;exact ywt hw h2
theorem zp0{s s':St}{d:Option Nat}{f:FuncId}{az:List PV}(h:callBx cf s d f az=some s')(x:Nat)(hx:d≠some x):look s'.sl x=look s.sl x:=by
 unfold callBx at h;obtain⟨⟨vs,os,bx,oc⟩,_,rfl⟩:=qm h;cases d with
 |none=>rfl
 |some d=>
  have:d≠x:=fun e=>hx (by rw[e])
  cases os<;>simp[St.put,St.putOwn,za4,this]
theorem zvz{s s':St}{d:Option Nat}{f:FuncId}{az:List PV}(h:callSt cf s d f az=some s')(x:Nat)(hx:d≠some x):look s'.sl x=look s.sl x:=by
 unfold callSt at h;split at h
 ·obtain⟨⟨vs,os,bx,oc⟩,h1,h2⟩:=qb h
  dsimp only at h2;split at h2
  ·cases d with
   |none=>cases h2;rfl
   |some d=>
    have:d≠x:=fun e=>hx (by rw[e])
    cases os<;>(cases h2;simp[St.put,St.putOwn,za4,this])
  ·exact zp0 h2 x hx
 ·exact zp0 h x hx
theorem yq8{s s':St}{d:Option Nat}{c:COp}(h:zaa cf s d c=some s')(x:Nat)(hx:d≠some x):look s'.sl x=look s.sl x:=by
 have put:∀(d:Option Nat) v,d≠some x->look (s.putD d v).sl x=look s.sl x:=fun d v hd=>by
  cases d with
  |none=>rfl
  |some d=>
   have:d≠x:=fun e=>hd (by rw[e])
   simp[St.putD,St.put,za4,this]
 by_cases hp:zgx c=true
 ·rw[zdk hp]at h
  obtain⟨p,_,rfl⟩:=qm h;exact put d p hx
 have put':∀(d:Nat) v,some d≠some x->look ((d,v)::s.sl) x=look s.sl x:=fun d v hd=>by
  have:d≠x:=fun e=>hd (by rw[e])
  simp[za4,this]
 cases c<;>try (exact absurd rfl hp)
 case mvA x=>
  simp only[zaa]at h;obtain⟨d,rfl,h2⟩:=qb h;split at h2
  ·cases h2
  ·cases h2;exact put' _ _ hx
 case asg y=>
  cases y with
  |c v=>exact absurd rfl hp
  |t i=>
   simp only[zaa]at h;cases d with
   |none=>cases h
   |some d=>
    dsimp only at h;split at h
    ·cases h
    ·split at h<;>(cases h;exact put' _ _ hx)
 case alloc e zs=>
  simp only[zaa]at h;obtain⟨d,rfl,rfl⟩:=qm h;exact put' _ _ hx
 case box e n x=>
  simp only[zaa]at h;obtain⟨d,rfl,h2⟩:=qb h;split at h2
  ·cases h2;exact put' _ _ hx
  ·cases h2
 case mksl by0 n size zs ps=>
  simp only[zaa]at h;obtain⟨d,rfl,h2⟩:=qb h;obtain⟨cs,h1,h3⟩:=qb h2;split at h3
  ·cases h3;exact put' _ _ hx
  ·cases h3
 case b2s y=>
  simp only[zaa]at h;obtain⟨p,h1,rfl⟩:=qm h;exact put d p hx
 case load ag n y=>
  simp only[zaa]at h;obtain⟨d,rfl,h2⟩:=qb h;obtain⟨p,h1,rfl⟩:=qm h2;exact put' _ _ hx
 case loadA y=>
  simp only[zaa]at h;obtain⟨d,rfl,h2⟩:=qb h;split at h2
  ·obtain⟨p,h1,rfl⟩:=qm h2
   exact put' _ _ hx
  ·cases h2
 case loadM y=>
  simp only[zaa]at h;obtain⟨d,rfl,h2⟩:=qb h;split at h2
  ·obtain⟨p,h1,h2⟩:=qb h2
   split at h2
   ·cases h2;exact put' _ _ hx
   ·cases h2
  ·cases h2
 case store n a y=>
  simp only[zaa]at h;split at h
  ·obtain⟨q,h1,h2⟩:=qb h
   split at h2
   ·split at h2
    ·split at h2<;>(cases h2;rfl)
    ·cases h2;rfl
   ·cases h2
  ·cases h
 case append by0 size y z=>
  simp only[zaa]at h;split at h
  ·split at h
   ·split at h
    ·obtain⟨d,rfl,rfl⟩:=qm h
     split<;>exact put' _ _ hx
    ·cases h
   ·cases h
  ·split at h
   ·obtain⟨L,h1,h⟩:=qb h
    obtain⟨d,rfl,h⟩:=qb h;split at h
    ·split at h
     ·cases h;exact put' _ _ hx
     ·cases h
    ·cases h
   ·cases h
 case appendS y z=>
  simp only[zaa]at h;split at h
  ·split at h
   ·split at h
    ·obtain⟨d,rfl,rfl⟩:=qm h
     split<;>exact put' _ _ hx
    ·cases h
   ·cases h
  ·split at h
   ·obtain⟨L,h1,h⟩:=qb h
    obtain⟨d,rfl,h⟩:=qb h;split at h
    ·split at h
     ·cases h;exact put' _ _ hx
     ·cases h
    ·cases h
   ·cases h
 case call f args=>
  simp only[zaa]at h;exact zvz h x hx
 case callv g args=>
  simp only[zaa]at h;split at h
  ·split at h
   ·cases h
   ·exact zvz h x hx
  ·exact zp0 h x hx
  ·cases h
theorem z33{s s':St}{o:COper}(h:stepG cf s o=some s')(x:Nat)(hx:o.dst≠some x):look s'.sl x=look s.sl x:=by
 unfold stepG at h;obtain⟨b,h1,h2⟩:=qb h;cases b with
 |false=>
  simp only[wbf,if_false,war]at h2;subst h2;cases hd:o.dst with
  |none=>rfl
  |some d=>
   have:d≠x:=fun e=>hx (by rw[hd,e])
   simp[St.putD,St.put,za4,this]
 |true=>simp only[if_true]at h2;exact yq8 h2 x hx
theorem z9l{s s':St}{d:Option Nat}{c:COp}(hw:z9k c=false)(h:zaa cf s d c=some s'):s'.bx=s.bx/\s'.ow.filter zad=s.ow.filter zad/\((∀q∈s.al,zad q.2=false)->∀q∈s'.al,zad q.2=false):=by
 have e1:∀(d:Nat)(l:List Loc),(zac d l).filter zad=l.filter zad:=fun d l=>by
  unfold zac;rw[wcs];apply wct;intro L _;cases L<;>simp[zad,ment]
 have e2:∀(i:Nat)(l:List Loc),(.slot i::l:List Loc).filter zad=l.filter zad:=fun i l=>by rw[wcv,if_neg (by simp[zad])]
 have e3:∀(d:Nat)(l:List (Nat×Loc)),(∀q∈l,zad q.2=false)->∀q∈za8 d l,zad q.2=false:=fun d l hl q hq=>hl q (wbw.1 hq).1
 have put:∀(d:Option Nat) v,(s.putD d v).bx=s.bx/\(s.putD d v).ow.filter zad=s.ow.filter zad/\((∀q∈s.al,zad q.2=false)->∀q∈(s.putD d v).al,zad q.2=false):=fun d v=>by
  cases d with
  |none=>exact⟨rfl,rfl,id⟩
  |some d=>exact⟨rfl,e1 d _,e3 d _⟩
 by_cases hp:zgx c=true
 ·rw[zdk hp]at h
  obtain⟨p,_,rfl⟩:=qm h;exact put d p
 cases c<;>first|exact absurd rfl hp|(cases hw;done)|skip
 case mvA x=>
  simp only[zaa]at h;obtain⟨d,rfl,h2⟩:=qb h;split at h2
  ·cases h2
  ·cases h2
   refine⟨rfl,e1 d _,fun hl q hq=>?_⟩;rcases waq.1 hq with rfl|hq
   ·rfl
   ·exact e3 d _ hl q hq
 case asg x=>
  cases x with
  |c v=>exact absurd rfl hp
  |t i=>
   simp only[zaa]at h;cases d with
   |none=>cases h
   |some d=>
    dsimp only at h;split at h
    ·cases h
    ·split at h
     ·cases h
      exact⟨rfl,by simp only[e2,e1],fun hl=>e3 _ _ (e3 d _ hl)⟩
     ·cases h
      exact put (some d) _
 case mksl by0 n size zs ps=>
  simp only[zaa]at h;obtain⟨d,rfl,h2⟩:=qb h;obtain⟨cs,h1,h3⟩:=qb h2;split at h3
  ·cases h3
   exact⟨rfl,by simp only[St.putOwn,e2,e1],e3 d _⟩
  ·cases h3
 case b2s x=>
  simp only[zaa]at h;obtain⟨p,h1,rfl⟩:=qm h;exact put d p
 case load ag n x=>
  simp only[zaa]at h;obtain⟨d,rfl,h2⟩:=qb h;obtain⟨p,h1,rfl⟩:=qm h2;exact put (some d) p
theorem yb3{s s':St}{o:COper}(hw:z9k o.op=false)(h:stepG cf s o=some s'):s'.bx=s.bx/\s'.ow.filter zad=s.ow.filter zad/\((∀q∈s.al,zad q.2=false)->∀q∈s'.al,zad q.2=false):=by
 unfold stepG at h;obtain⟨b,h1,h2⟩:=qb h;cases b with
 |false=>
  simp only[wbf,if_false,war]at h2;subst h2;exact z9l (cf:=cf) (s:=s) (d:=o.dst) (c:=.mv (.c (.tup []))) rfl (by simp[zaa,zao,X.ev])
 |true=>simp only[if_true]at h2;exact z9l hw h2
theorem ykk{cs:List COper}{j:Nat}(h:j<cs.length):cs[j]?=some (atD cs j):=by simp[atD,h]
theorem yei{qs:List FuncId}(hcf:zcj P Γ cf)(hS:Good Γ S){ops:Array Oper}{ali:List Nat}{cs:List COper}{ps:List Nat}{Q:Exit->Act->World->Prop}{st0 stk:St}(hok:yki qs ops cs ps=true)
 (hco:∀(j:Nat)(c:COper),cs[j]?=some c->∃o,ops[j]?=some o/\CoR P S.nt ops ali o c) (hal:st0.al=[]) (hpre:evQ cf (ps.map (atD cs)) st0=some stk)
 {TP:BT->St->Prop} {Dies:Nat->St->Prop} (hmemT:∀(g:Nat->BT)(s:St)(l:List Nat),TP (mkA g cs l) s->∀j∈l,(∃s',stepG cf s (atD cs j)=some s'/\TP (g j) s')\/Dies j s) (hfin:∀s a w,TP .done s->Rl P S s a w->Q .normal a w)
 (hdies:∀j s,Dies j s->∀s1 o a w K,(∀x∈(atD cs j).reads,look s1.sl x=look s.sl x)->(∀x,(∀i∈ps,(atD cs i).dst≠some x)->look s1.sl x=look s.sl x)->s1.bx=s.bx->s1.ow.filter zad=s.ow.filter zad->CoR P S.nt ops ali o (atD cs j)->Rl P S s1 a w->if Region.wanted o (yielded ops a.tmps)then o.wpIn (fw r) 0 P a w K Q else(∀f,o.about P w a.eval=some f->(fw r).fn f)/\K (a.put o.dst undef) w)
 (htree:TP (mkT ops.size (ancs ops) ps cs ops.size []) stk) (hr:Rl P S st0 a w):wpAnyIn (fw r) 0 P .any ops Q ops.size (Array.replicate ops.size false) a w:=by
 unfold yki at hok;simp only[wb1,decide_eq_true_eq,wa9,wcl,wcc,bne_iff_ne,ne_eq,beq_iff_eq,List.contains_iff_mem,wb2]at hok;obtain⟨⟨⟨⟨⟨⟨⟨⟨⟨hlen,hback⟩,hkind⟩,hdist⟩,hreads⟩,hwar⟩,hmem⟩,hquiet⟩,hali⟩,hsort⟩:=hok;obtain⟨n,hn⟩:∃n,ops.size=n:=⟨_,rfl⟩;obtain⟨an,han⟩:∃an,ancs ops=an:=⟨_,rfl⟩;rw[hn]at hlen hback hkind hdist hreads hwar hmem hquiet hali htree;rw[han]at hreads hwar hmem hquiet htree;have hdst:∀i∈ps,∃d,(atD cs i).dst=some d:=fun i hi=>wck.1 (hkind i hi).2.2
 obtain⟨D,hDe⟩:∃D:List Nat,D=ps.filterMap fun i=>(atD cs i).dst:=⟨_,rfl⟩
 have hD:∀d,d∈D ↔ ∃i∈ps,(atD cs i).dst=some d:=fun d=>by rw[hDe,wcq]
 have hself:∀i∈ps,∀d,(atD cs i).dst=some d->d∉(atD cs i).reads:=fun i hi d hd hm=>by
  rcases hreads i (hkind i hi).1 d hm i hi with h|⟨h,_⟩
  ·exact h hd
  ·omega
 obtain⟨f1,f2,f3,f4,f5,f6⟩:=z31 (qs:=qs) (D:=D) (ps.map (atD cs)) st0 stk hpre (by
  rw[List.pairwise_map];refine(List.Pairwise.and_mem.1 hsort).imp ?_;rintro i j ⟨hi,hj,hij⟩ d hd;refine⟨fun hm=>?_,fun e=>?_⟩
  ·rcases hreads i (hkind i hi).1 d hm j hj with h|⟨h,_⟩
   ·exact h hd
   ·omega
  ·rcases hdist i hi j (hkind j hj).1 with h|h
   ·omega
   ·exact h (by rw[hd,e])) (fun o ho=>by
  obtain⟨i,hi,rfl⟩:=wbv.1 ho;exact⟨(hkind i hi).2.1,(hkind i hi).2.2,hself i hi⟩) (fun d=>by
  rw[hD];constructor
  ·rintro⟨i,hi,e⟩;exact⟨_,wbv.2 ⟨i,hi,rfl⟩,e⟩
  ·rintro⟨o,ho,e⟩;obtain⟨i,hi,rfl⟩:=wbv.1 ho;exact⟨i,hi,e⟩) hal
 have f7:∀i∈ps,∀d,(atD cs i).dst=some d->∀st2:St,(∀x∈(atD cs i).reads,look st2.sl x=look stk.sl x)->ykh stk st2 (atD cs i).op->∃s',stepG cf st2 (atD cs i)=some s'/\Says (st2.put d (look stk.sl d)) s':=
  fun i hi=>f6 _ (wbv.2 ⟨i,hi,rfl⟩)
 have hdn:∀j,j<n->j∉ps->∀d,(atD cs j).dst=some d->d∉D:=fun j hj hp d hd hm=>by
  obtain⟨i,hi,e⟩:=(hD d).1 hm;rcases hdist i hi j hj with h|h
  ·exact hp (h▸hi)
  ·exact h (by rw[hd,e])
 obtain⟨Inv,hInv⟩:∃Inv:Array Bool->Act->World->Prop,Inv=fun listed a w=>∃(f:Nat)(dn:List Nat)(s s1:St),Rl P S s1 a w/\Part (fun x=>∃i∈ps,¬listed.getD i false=true/\(atD cs i).dst=some x) D s1 s/\TP (mkT n an ps cs f dn) s/\
  (∀j,j<n->j∉ps->(listed.getD j false=true ↔ j∈dn))/\((List.range n).filter fun j=>!ps.contains j&& !dn.contains j).length<=f/\
  (∀i∈ps,¬listed.getD i false=true->(∀x∈(atD cs i).reads,look s.sl x=look stk.sl x)/\ykh stk s (atD cs i).op)/\(∀i∈ps,∀d,(atD cs i).dst=some d->look s.sl d=look stk.sl d):=⟨_,rfl⟩
 have fin:∀(listed:Array Bool)(a:Act)(w:World),(∀i,i<n->listed.getD i false=true)->Inv listed a w->Q .normal a w:=fun listed a w hall h=>by
  rw[hInv]at h;obtain⟨f,dn,s,s1,h1,h2,h3,h4,h5,h6,h7⟩:=h;have hrb:z32 n an ps dn=[]:=by
   unfold z32;refine List.filter_eq_nil_iff.2 fun j hj hc=>?_
   simp only[wb1,wb2,List.contains_eq_mem,decide_eq_false_iff_not]at hc;have hjn:=wcl.1 hj;exact hc.2.1 ((h4 j hjn hc.1).1 (hall j hjn))
  have hdone:mkT n an ps cs f dn=.done:=by
   cases f with
   |zero=>rfl
   |succ f=>simp only[mkT,hrb,mkA]
  rw[hdone]at h3;have hNo:∀x,¬∃i∈ps,¬listed.getD i false=true/\(atD cs i).dst=some x:=fun x ⟨i,hi,hl,_⟩=>hl (hall i (hkind i hi).1)
  refine hfin s a w h3 (h1.congr (fun x=>(h2.sl x (hNo x)).symm) (fun L hL=>(h2.own fun i _=>hNo i).2 hL) (fun q hq=>by rw[h2.al];exact hq) h2.bx.symm)
 have main:∀(fuel:Nat)(listed:Array Bool)(a:Act)(w:World),listed.size=n->((List.range n).filter fun i=>!listed.getD i false).length<=fuel->
  (∀i,i<n->listed.getD i false=true->∀j∈zdl ops i,listed.getD j false=true)->Inv listed a w->wpAnyIn (fw r) 0 P .any ops Q fuel listed a w:=by
  intro fuel;have setd:∀(listed:Array Bool)(i j:Nat),i<listed.size->((listed.setIfInBounds i true).getD j false=true ↔ (listed.getD j false=true\/j=i)):=fun listed i j hi=>by
   by_cases h:i=j
   ·subst h;simp[hi]
   ·rw[getD_set_ne false h]
    exact⟨.inl,fun h'=>h'.resolve_right (was h)⟩
  have rdy:∀(listed:Array Bool)(i:Nat),listed.size=n->(i∈Region.ready .any ops listed ↔ i<n/\¬listed.getD i false=true/\∀j∈zdl ops i,listed.getD j false=true):=fun listed i hz=>by
   rw[mem_ready];constructor
   ·rintro⟨h1,o,ho,h2⟩
    have hi:=(wan.1 ho).1;refine⟨by omega,?_,fun j hj=>?_⟩
    ·rw[wap,wcp (by omega)]at h1⊢
     simp at h1⊢;exact h1
    ·unfold zdl at hj
     rw[ho]at hj;obtain⟨e,he,hj2⟩:=wcq.1 hj;split at hj2
     ·rename_i hb;cases hj2;exact h2 e (by simpa using he) hb
     ·cases hj2
   ·rintro⟨hi,h1,h2⟩
    refine⟨?_,ops[i],wcp (by omega),fun e he hb=>h2 _ ?_⟩
    ·rw[wap,wcp (by omega)]at h1⊢
     simp at h1⊢;exact h1
    ·unfold zdl
     rw[wcp (by omega)];exact wcq.2 ⟨e,by simpa using he,by rw[if_pos hb]⟩
  have stuck:∀listed:Array Bool,listed.size=n->Region.ready .any ops listed=[]->∀i,i<n->listed.getD i false=true:=fun listed hz hrd i=>by
   induction i using Nat.strongRecOn with
   |_ i ih=>
    intro hi;by_cases h:listed.getD i false=true
    ·exact h
    ·have:i∈Region.ready .any ops listed:=(rdy listed i hz).2 ⟨hi,h,fun j hj=>by
      have hlt:=hback i hi j hj;exact ih j hlt (by omega)⟩
     rw[hrd]at this;cases this
  induction fuel with
  |zero=>
   intro listed a w hz hc _ hph;have hall:∀i,i<n->listed.getD i false=true:=fun i hi=>by
    cases hb:listed.getD i false with
    |true=>rfl
    |false=>
     have hmem:i∈(List.range n).filter fun i=>!listed.getD i false:=wbw.2 ⟨wcl.2 hi,by rw[hb];rfl⟩
     have h0:(List.range n).filter (fun i=>!listed.getD i false)=[]:=qz (by omega);rw[h0]at hmem;cases hmem
   refine⟨?_,fin listed a w hall hph⟩;cases hrl:Region.ready .any ops listed with
   |nil=>rfl
   |cons i r=>
    have:=(rdy listed i hz).1 (by rw[hrl];simp);exact absurd (hall i this.1) this.2.1
  |succ fuel ih=>
   intro listed a w hz hc hcl hph;refine⟨fun h=>fin listed a w (stuck listed hz h) hph,fun i hi=>?_⟩;obtain⟨hin,hnl,hdir⟩:=(rdy listed i hz).1 hi;have hcl':∀i,listed.getD i false=true->∀j∈zdl ops i,listed.getD j false=true:=fun i' h=>by
    by_cases hlt:i'<n
    ·exact hcl i' hlt h
    ·rw[wap,wcr (by omega)]at h;cases h
   have hanc:∀x∈an.getD i [],listed.getD x false=true:=by rw[<-han];exact z1i hcl' (by omega) hdir
   have hz2:(listed.setIfInBounds i true).size=n:=by simp[hz]
   have hcnt:((List.range n).filter fun j=>!(listed.setIfInBounds i true).getD j false).length<=fuel:=by
    have e1:((List.range n).filter fun j=>!(listed.setIfInBounds i true).getD j false)=((List.range n).filter fun j=>!listed.getD j false).filter (· !=i):=by
     rw[wcs];apply wct;intro j _;have:=setd listed i j (by omega);by_cases hji:j=i
     ·subst hji
      have h1:(listed.setIfInBounds j true).getD j false=true:=this.2 (.inr rfl);rw[h1];simp
     ·rw[getD_set_ne false (was hji)];simp[hji]
    have hmem:i∈(List.range n).filter fun i=>!listed.getD i false:=wbw.2 ⟨wcl.2 hin,by simpa using hnl⟩
    rw[e1];have:=wcu.2 (show∃x∈(List.range n).filter (fun j=>!listed.getD j false),¬((x !=i)=true)from⟨i,hmem,by simp⟩);omega
   have hcl2:∀i',i'<n->(listed.setIfInBounds i true).getD i' false=true->∀j∈zdl ops i',(listed.setIfInBounds i true).getD j false=true:=fun i' hi' h j hj=>by
    rw[setd listed i _ (by omega)]at h⊢;rcases h with h|rfl
    ·exact .inl (hcl i' hi' h j hj)
    ·exact .inl (hdir j hj)
   rw[hInv]at hph;obtain⟨f,dn,s,s1,h1,h2,h3,h4,h5,h6,h7⟩:=hph;obtain⟨o,ho,hcoo⟩:=hco i (atD cs i) (ykk (by omega));have hND:∀x,(∃i∈ps,¬listed.getD i false=true/\(atD cs i).dst=some x)->x∈D:=fun x ⟨j,hj,_,e⟩=>(hD x).2 ⟨j,hj,e⟩
   have hrN:∀x∈(atD cs i).reads,¬∃j∈ps,¬listed.getD j false=true/\(atD cs j).dst=some x:=fun x hx ⟨j,hj,hl,e⟩=>by
    rcases hreads i hin x hx j hj with h|⟨_,h⟩
    ·exact h e
    ·exact hl (hanc j h)
   by_cases hip:i∈ps
   ·
    obtain⟨d,hd⟩:=hdst i hip;obtain⟨g1,g2⟩:=h6 i hip hnl;obtain⟨sx,hst,hsay⟩:=f7 i hip d hd s1 (fun x hx=>by rw[h2.sl x (hrN x hx)];exact g1 x hx) ⟨fun hm=>by rw[h2.bx];exact g2.1 hm,fun hm1 hm2=>by rw[h2.bx,h2.cells,h2.al];exact g2.2 hm1 hm2⟩;refine zvx ho (zod hcf hS hcoo hst h1 fun a' w' hr''=>ih _ a' w' hz2 hcnt hcl2 ?_);have hr':Rl P S (s1.put d (look stk.sl d)) a' w':=hr''.congr (fun x=>(hsay.sl x).symm) hsay.ow hsay.al hsay.bx.symm;rw[hInv];have hdD:d∈D:=(hD d).2 ⟨i,hip,hd⟩;refine⟨f,dn,s,_,hr',⟨fun x hx=>?_,?_,?_,h2.bx,h2.no,fun x hxD hx hm=>?_⟩,h3,fun j hj hjp=>?_,h5,fun j hj hl=>?_,h7⟩
    ·by_cases e:d=x
     ·subst e
      simp only[St.put,za4,if_true];exact(h7 i hip d hd).symm
     ·simp only[St.put,za4]
      rw[if_neg e];refine h2.sl x fun⟨j,hj,hl,e2⟩=>hx ⟨j,hj,?_,e2⟩
      rw[setd listed i j (by omega)];rintro(h|rfl)
      ·exact hl h
      ·rw[hd]at e2;cases e2;exact e rfl
    ·have:((s1.put d (look stk.sl d)).ow).filter (clr D)=s1.ow.filter (clr D):=by
      show(zac d s1.ow).filter (clr D)=_;unfold zac;rw[wcs];apply wct;intro L _;cases L with
      |cell=>rfl
      |slot k=>
       simp only[clr,ment];by_cases e:k=d
       ·subst e;simp[hdD]
       ·simp[e]
     rw[this,h2.ow]
    ·show za8 d s1.al=s.al
     rw[h2.al];refine wcd.2 fun q hq=>?_
     obtain⟨k1,k2⟩:=h2.no q hq;have e1:q.1≠d:=fun e=>k1 (e▸hdD)
     have e2:ment d q.2=false:=by
      cases hq2:q.2 with
      |cell=>rfl
      |slot k=>
       rw[hq2,zhc]at k2;simp only[ment,beq_eq_false_iff_ne,ne_eq];exact fun e=>k2 (e▸hdD)
     simp[e1,e2]
    ·have hm2:.slot x∈zac d s1.ow:=hm
     unfold zac at hm2;obtain⟨m1,m2⟩:=wbw.1 hm2;by_cases e:x=d
     ·subst e;simp[ment]at m2
     ·refine h2.un x hxD (fun⟨j,hj,hl,e2⟩=>hx ⟨j,hj,?_,e2⟩) m1
      rw[setd listed i j (by omega)];rintro(h|rfl)
      ·exact hl h
      ·rw[hd]at e2;cases e2;exact e rfl
    ·rw[setd listed i j (by omega),h4 j hj hjp]
     exact⟨fun h=>h.resolve_right fun e=>hjp (e▸hip),.inl⟩
    ·exact h6 j hj fun h=>hl ((setd listed i j (by omega)).2 (.inl h))
   ·
    have hind:i∉dn:=fun h=>hnl ((h4 i hin hip).2 h)
    have hrdy:i∈z32 n an ps dn:=by
     unfold z32;refine wbw.2 ⟨wcl.2 hin,?_⟩;simp only[wb1,wb2,List.contains_eq_mem,decide_eq_false_iff_not,wa9,wcc,decide_eq_true_eq];refine⟨hip,hind,fun x hx=>?_⟩;by_cases hxp:x∈ps
     ·exact .inl hxp
     ·right
      have hxl:=hanc x hx;by_cases hxn:x<n
      ·exact(h4 x hxn hxp).1 hxl
      ·rw[wap,wcr (by omega)]at hxl;cases hxl
    have hfp:0<f:=by
     have:i∈(List.range n).filter fun j=>!ps.contains j&& !dn.contains j:=wbw.2 ⟨wcl.2 hin,by simp[hip,hind]⟩
     have:=List.length_pos_of_mem this;omega
    obtain⟨f,rfl⟩:∃f',f=f'+1:=⟨f - 1,by omega⟩;simp only[mkT]at h3;rcases hmemT _ s _ h3 i hrdy with⟨s',k1,k2⟩|hdie
    case inr=>exact zvx ho (hdies i s hdie s1 o a w _ (fun x hx=>h2.sl x (hrN x hx)) (fun x hx=>h2.sl x fun⟨i',hi',_,e⟩=>hx i' hi' e) h2.bx h2.cells hcoo h1)
    have hdD:∀x,(atD cs i).dst=some x->x∉D:=fun x hx=>hdn i hin hip x hx
    obtain⟨s1',k3,k4⟩:=frame h2 hND hdD hrN (fun x hx hxD=>by
     obtain⟨j,hj,e⟩:=(hD x).1 hxD;rcases hali i hin with h|h
     ·exact hip h
     ·rw[hx]at h;simp only[wa9,bne_iff_ne,ne_eq]at h;exact h j hj e) k1
    refine zvx ho (zod hcf hS hcoo k3 h1 fun a' w' hr'=>ih _ a' w' hz2 hcnt hcl2 ?_);rw[hInv];have hNe:(fun x=>∃j∈ps,¬(listed.setIfInBounds i true).getD j false=true/\(atD cs j).dst=some x)=fun x=>∃j∈ps,¬listed.getD j false=true/\(atD cs j).dst=some x:=by
     funext x;apply propext;constructor
     ·rintro⟨j,hj,hl,e⟩
      exact⟨j,hj,fun h=>hl ((setd listed i j (by omega)).2 (.inl h)),e⟩
     ·rintro⟨j,hj,hl,e⟩
      refine⟨j,hj,fun h=>?_,e⟩;rcases(setd listed i j (by omega)).1 h with h|rfl
      ·exact hl h
      ·exact hip hj
    refine⟨f,i::dn,s',s1',hr',by rw[hNe];exact k4,k2,fun j hj hjp=>?_,?_,fun j hj hl=>?_,fun j hj d hd=>?_⟩
    ·rw[setd listed i j (by omega),h4 j hj hjp,waq]
     exact Or.comm
    ·have e1:((List.range n).filter fun j=>!ps.contains j&& !(i::dn).contains j)=((List.range n).filter fun j=>!ps.contains j&& !dn.contains j).filter (· !=i):=by
      rw[wcs];apply wct;intro j _;by_cases hji:j=i
      ·subst hji;simp
      ·simp[hji]
     have hmem2:i∈(List.range n).filter fun j=>!ps.contains j&& !dn.contains j:=wbw.2 ⟨wcl.2 hin,by simp[hip,hind]⟩
     rw[e1];have:=wcu.2 (show∃x∈(List.range n).filter (fun j=>!ps.contains j&& !dn.contains j),¬((x !=i)=true)from⟨i,hmem2,by simp⟩);omega
    ·have hl0:¬listed.getD j false=true:=fun h=>hl ((setd listed i j (by omega)).2 (.inl h))
     obtain⟨g1,g2⟩:=h6 j hj hl0;refine⟨fun x hx=>?_,fun hm=>?_,fun hm1 hm2=>?_⟩
     ·rw[z33 k1 x fun e=>?_]
      ·exact g1 x hx
      ·rcases hwar j hj x hx i hin with h|h|h
       ·exact h e
       ·exact hip h
       ·exact hl0 (hanc j h)
     ·obtain⟨z,hz⟩:=g2.1 hm
      obtain⟨z2,hz2⟩:=ykj (o:=atD cs i) (by
       rcases hmem j hj with h|h
       ·rw[hm]at h;cases h
       ·rcases h i hin with h|h|h
        ·exact h
        ·exact absurd h hip
        ·exact absurd (hanc j h) hl0) k1
      exact⟨z++z2,by rw[hz2,hz,wa4]⟩
     ·obtain⟨z1,z2,z3⟩:=g2.2 hm1 hm2
      have hqk:z30 qs (atD cs j).op=true:=by
       have:=(hkind j hj).2.1;unfold preK at this;rw[hm1,hm2]at this;simpa using this
      obtain⟨y1,y2,y3⟩:=yb3 (o:=atD cs i) (by
       rcases hquiet j hj with h|h
       ·rw[hqk]at h;cases h
       ·rcases h i hin with h|h|h
        ·exact h
        ·exact absurd h hip
        ·exact absurd (hanc j h) hl0) k1
      exact⟨by rw[y1,z1],by rw[y2,z2],y3 z3⟩
    ·rw[z33 k1 d fun e=>hdD d e ((hD d).2 ⟨j,hj,hd⟩)]
     exact h7 j hj d hd
 rw[hn];refine main n _ a w (by simp) (wac (List.length_filter_le _ _) (by simp)) (fun i hi h=>by simp[hi]at h) ?_;have hnot:∀i,¬(Array.replicate n false).getD i false=true:=fun i h=>by
  by_cases hj:i<n<;>simp[hj]at h
 rw[hInv];refine⟨n,[],stk,st0,hr,⟨fun x hx=>?_,f4.symm,by rw[f2,hal],f1.symm,(fun q hq=>by rw[f2]at hq;cases hq),fun x hxD hx=>?_⟩,htree,fun j _ _=>⟨fun h=>absurd h (hnot j),fun h=>by cases h⟩,wac (List.length_filter_le _ _) (by simp),fun i hi _=>⟨fun x hx=>rfl,fun _=>⟨[],by simp⟩,fun _ _=>⟨rfl,rfl,fun q hq=>by rw[f2]at hq;cases hq⟩⟩,fun i hi d hd=>rfl⟩
 ·refine(f5 x fun hm=>hx ?_).symm
  obtain⟨i,hi,e⟩:=(hD x).1 hm;exact⟨i,hi,hnot i,e⟩
 ·obtain⟨i,hi,e⟩:=(hD x).1 hxD
  exact absurd ⟨i,hi,hnot i,e⟩ hx
theorem yej{qs:List FuncId}(hcf:zcj P Γ cf)(hS:Good Γ S){ops:Array Oper}{ali:List Nat}{cs:List COper}{ps live:List Nat}{Q:Exit->Act->World->Prop}{st0 stk F:St}(hok:yki qs ops cs ps=true)
 (hco:∀(j:Nat)(c:COper),cs[j]?=some c->∃o,ops[j]?=some o/\CoR P S.nt ops ali o c) (hal:st0.al=[]) (hpre:evQ cf (ps.map (atD cs)) st0=some stk) (htree:evT cf live (mkT ops.size (ancs ops) ps cs ops.size []) stk=some F) (hr:Rl P S st0 a w)
 (hK:∀s a' w',s.keep live=F->Rl P S s a' w'->Q .normal a' w'):wpAnyIn (fw r) 0 P .any ops Q ops.size (Array.replicate ops.size false) a w:=
 yei hcf hS hok hco hal hpre (TP:=fun t s=>evT cf live t s=some F) (Dies:=fun _ _=>False) (fun g s l h j hj=>.inl (yeh l h j hj)) (fun s a w h hr=>hK s a w (by simpa[evT]using h) hr) (fun _ _ h=>h.elim) htree hr
end
end Nun
namespace Nun
open Go Go.RowKit
def z34(o:Oper):Option Nat:=match o.op with
 | .call {callee:=.builtin .append,args,.. }=>match args.toList with
   | .tmp t::_=>some t
   |_=>none
 |_=>none
def z1k(P:Program)(nt:Nat)(ops:Array Oper)(draw:Bool):Option (List COper×List COper):=
 (ops.toList.mapM (zmi P nt ops (ops.toList.filterMap z34))).bind fun cs=>
   if draw then((List.range' 1 cs.length).find? fun k=>z9i ops ((List.zipWith cpO ops.toList cs).take k++cs.drop k) k).map fun k=>((List.zipWith cpO ops.toList cs).take k,cs.drop k)else some ([],cs)
def z7b(qs:List FuncId)(ops:Array Oper)(cs:List COper):List Nat:=
 let an:=ancs ops
 (List.range cs.length).foldl (fun ps i=>if preK qs (atD cs i).op&&((atD cs i).dst.isSome&&((zdl ops i).all (fun j=>ps.contains j)&&
   ((!memK (atD cs i).op||(List.range cs.length).all fun j=>!wrK (atD cs j).op||(ps.contains j||(an.getD j []).contains i))&&((!z30 qs (atD cs i).op||(List.range cs.length).all fun j=>i==j||(!z9k (atD cs j).op||(z30 qs (atD cs j).op||(an.getD j []).contains i)))&&
   ((List.range cs.length).all fun j=>i==j||((atD cs j).dst !=(atD cs i).dst&&(ps.contains j||((an.getD j []).contains i||(atD cs i).reads.all fun s=>(atD cs j).dst !=some s))))))))then ps++[i]else ps) []
def mkM(qs:List FuncId)(ops:Array Oper)(c:COper):COper:=match c.op with
 | .loadA y=>if(ops.toList.any fun o=>match o.op with
  | .call {callee:=.value (.func f),.. }=>qs.contains (f+yldF)
  |_=>false)=true then{c with op:=.loadM y}else c
 |_=>c
theorem ywu{P:Program}{nt:Nat}{qs:List FuncId}{ops:Array Oper}{ali:List Nat}{o:Oper}{c:COper}(h:zmi P nt ops ali o=some c):CoR P nt ops ali o (mkM qs ops c):=by
 unfold mkM;split
 ·rename_i y e
  split
  ·right;left
   refine⟨y,rfl,?_⟩;rw[h];obtain⟨dst,g,op⟩:=c;dsimp only at e;subst e;rfl
  ·exact .inl h
 ·exact .inl h
def z35(P:Program)(qs:List FuncId)(nt:Nat)(ops:Array Oper):Option (List COper×BT):=
 ((ops.toList.mapM (zmi P nt ops (ops.toList.filterMap z34))).map fun cs=>cs.map (mkM qs ops)).bind fun cs=>
   if yki qs ops cs (z7b qs ops cs)then some ((z7b qs ops cs).map (atD cs),mkT ops.size (ancs ops) (z7b qs ops cs) cs ops.size [])else none
def hasQ(qs:List FuncId)(ops:Array Oper):Bool:=ops.toList.any fun o=>match o.op with
 | .call {callee:=.value (.func f),.. }=>qs.contains f||qs.contains (f+yldF)
 |_=>false
def ywv(P:Program)(qs:List FuncId)(nt:Nat)(ops:Array Oper)(draw:Bool)(l:List Nat):Option CCode:=
 if(draw&&hasQ qs ops)=true then(z35 P qs nt ops).map fun q=>.regT l q.1 q.2 else match z1k P nt ops draw with
  |some q=>some (.reg l q.1 q.2)
  |none=>if draw then(z35 P qs nt ops).map fun q=>.regT l q.1 q.2 else none
def ykl:CCode:=.cond (.c .unk) .skip .skip
theorem zjl{cf:Callee}{n:Nat}{st:St}{r:Out×St}(h:evC cf n ykl st=some r):False:=by
 simp[ykl,evC,X.ev]at h
def zc2(P:Program)(qs:List FuncId)(f nt:Nat):Nat->List (List Nat)->Code->Option (CCode×List (List Nat))
 |_,lv,.skip=>some (.skip,lv)
 |_,l::lv,.region _ ops draw=>match ywv P qs nt ops draw l with
  |some c=>some (c,lv)
  |none=>some (ykl,lv)
 |k,lv,.seq a b=>(zc2 P qs f nt k lv a).bind fun q=>(zc2 P qs f nt (k+(zaw a).length) q.2 b).map fun r=>(.seq q.1 r.1,r.2)
 |k,lv,.cond c a b=>(coX c).bind fun x=>(zc2 P qs f nt k lv a).bind fun q=>(zc2 P qs f nt (k+(zaw a).length) q.2 b).map fun r=>(.cond x q.1 r.1,r.2)
 |k,lv,.block id b=>(zc2 P qs f nt k lv b).map fun q=>(.block id q.1,q.2)
 |k,lv,.scope b=>zc2 P qs f nt k lv b
 |_,lv,.label _=>some (.skip,lv)
 |k,l::lv,.loop b=>(zc2 P qs f nt k lv b).map fun q=>(.loop l q.1,q.2)
 |k,l::lv,.rangeFunc g _ _ _=>(coX g).map fun x=>(.range f k l x,lv)
 |_,l::lv,.exit id=>some (.exit id l,lv)
 |_,l::lv,.ret=>some (.ret l,lv)
 |_,lv,_=>some (ykl,lv)
def yq9(P:Program)(qs:List FuncId)(f nt k:Nat)(lv:List (List Nat))(q:Operand×Array Tmp×Code×Code):Option (List Nat×CCode×CCode):=
 if q.2.1.toList.all (·<nt)then(zc2 P qs f nt (k+1) lv q.2.2.1).bind fun c=>(zc2 P qs f nt (k+1+(zaw q.2.2.1).length) c.2 q.2.2.2).map fun d=>(q.2.1.toList,c.1,d.1)else none
def zza(P:Program)(qs:List FuncId)(f nt:Nat):Nat->List (List (List Nat))->List (Operand×Array Tmp×Code×Code)->Option (List (List Nat×CCode×CCode))
 |_,_,[]=>some []
 |k,lv::lvs,q::r=>(yq9 P qs f nt k lv q).bind fun c=>(zza P qs f nt (k+1) lvs r).map (c::·)
 |_,[],_::_=>none
def zv0(P:Program):ResultVar->Option (Sum Nat (Nat×Bool×Nat))
 | .tmp t=>some (.inl t)
 | .cell t ty=>(zdv P ty).bind fun g=>(szOf P ty).bind fun n=>if g=true\/n=1 then some (.inr (t,g,n))else none
structure Lv where
 main:List (List Nat)
 rngs:List (List (List Nat))
 qs:List FuncId
def z36(P:Program)(lv:Lv)(f:FuncId):Option CFun:=match P.funcs[f]? with
 |some fn=>match fn.body with
  |some b=>if fn.name != "runtime.NumGoroutine" then(zc2 P lv.qs f fn.ntmps 0 lv.main b).bind fun q=>(zza P lv.qs f fn.ntmps 0 lv.rngs (zaw b)).bind fun rg=>(fn.results.toList.mapM (zv0 P)).map fun rs=>⟨fn.ntmps,rs,q.1,rg⟩else none
  |none=>none
 |none=>none
theorem zzb{P:Program}{qs:List FuncId}{f nt:Nat}:∀{l:List (Operand×Array Tmp×Code×Code)}{k:Nat}{lvs:List (List (List Nat))}{r:List (List Nat×CCode×CCode)},zza P qs f nt k lvs l=some r->∀(j:Nat)(c:List Nat×CCode×CCode),r[j]?=some c->∃q lv,l[j]?=some q/\yq9 P qs f nt (k+j) lv q=some c
 |[],k,lvs,r,h,j,c,hj=>by simp only[zza,war]at h;subst h;simp at hj
 |q::l,k,[],r,h,j,c,hj=>by simp only[zza]at h;cases h
 |q::l,k,lv::lvs,r,h,j,c,hj=>by
  simp only[zza]at h;obtain⟨c0,h1,h⟩:=qb h;obtain⟨r',h2,rfl⟩:=qm h;cases j with
  |zero=>simp at hj;subst hj;exact⟨q,lv,rfl,h1⟩
  |succ j=>
   obtain⟨q',lv',k1,k2⟩:=zzb h2 j c (by simpa using hj);exact⟨q',lv',by simpa using k1,by rw[show k+(j+1)=k+1+j by omega];exact k2⟩
def Out.ex:Out->Exit
 | .normal=>.normal
 | .exit id=>.exit id
 | .ret=>.ret
section
variable {P:Program} {qs:List FuncId} {w w':World} {r:Option Nat} {Fr Fr':Nat→Nat} {β β':List Nat} {T:List Deferred} {base nt:Nat} {M:Nat→Prop} {w0:World} {F0:Nat→Nat} {st st':St} {a a':Act} {cf:Callee} {Γ:Glob} {S:S0}
mutual
theorem z9m{nb:Nat}:∀(p:PV)(v:Value),p.low nb=true->Rd w Fr β p v->Rd w Fr (β.take nb) p v
 | .unk,_,_,_=>by simp[Rd]
 | .flat u,v,_,k=>by simpa[Rd]using k
 | .slc n cs,v,h,k=>by
   simp only[Rd]at k⊢;obtain⟨b,cap,h1,h2,h3⟩:=k;refine⟨b,cap,h1,h2,h3.imp id ?_⟩;rintro⟨g,o,vs,ha,hr,hs,ho⟩;exact⟨g,o,vs,ha,hr,zll cs vs h hs,ho⟩
 | .agg cs,v,h,k=>by
   simp only[Rd]at k⊢;obtain⟨vs,h1,hs,ho⟩:=k;exact⟨vs,h1,zll cs vs h hs,ho⟩
 | .tup cs,v,h,k=>by
   simp only[Rd]at k⊢;obtain⟨vs,h1,hs⟩:=k;exact⟨vs,h1,zll cs vs h hs⟩
 | .ptr b o,v,h,k=>by
   simp only[Rd]at k⊢;obtain⟨g,h1,h2⟩:=k;have:b<nb:=by simpa[PV.low]using h
   exact⟨g,by rw[wbz this];exact h1,h2⟩
 | .elt cs,v,h,k=>by
   simp only[Rd]at k⊢;obtain⟨g,o,vs,h1,hr,hs,ho⟩:=k;exact⟨g,o,vs,h1,hr,zll cs vs h hs,ho⟩
 | .clo f cs,v,h,k=>by
   simp only[Rd]at k⊢;obtain⟨vs,h1,hs⟩:=k;exact⟨vs,h1,zll cs vs h hs⟩
 | .yld b,v,h,k=>by
   simp only[Rd]at k⊢;obtain⟨g,h1,h2⟩:=k;have:b<nb:=by simpa[PV.low]using h
   exact⟨g,by rw[wbz this];exact h1,h2⟩
 | .bsl b off n,v,h,k=>by
   simp only[Rd]at k⊢;obtain⟨g,a,cap,h1,h2⟩:=k;have:b<nb:=by simpa[PV.low]using h
   exact⟨g,a,cap,by rw[wbz this];exact h1,h2⟩
 | .lp _ _ _ _ _,v,h,k=>by simp only[Rd]at k
theorem zll{nb:Nat}:∀(ps:List PV)(vs:List Value),lows nb ps=true->Rds w Fr β ps vs->Rds w Fr (β.take nb) ps vs
 |[],vs,_,k=>by simpa[Rds]using k
 |p::ps,vs,h,k=>by
  simp only[lows,wb1]at h;simp only[Rds]at k⊢;obtain⟨v,r,h1,h2,h3⟩:=k;exact⟨v,r,h1,z9m p v h.1 h2,zll ps r h.2 h3⟩
end
theorem z9n{nb:Nat}:∀(live:List Nat)(snap:List PV)(i:Nat),lows nb snap=true->(look (live.zip snap) i).low nb=true
 |[],_,i,_=>by simp[look,PV.low]
 |_::_,[],i,_=>by simp[look,PV.low]
 |j::live,p::snap,i,h=>by
  simp only[lows,wb1]at h;rw[List.zip_cons_cons,za4];split
  ·exact h.1
  ·exact z9n live snap i h.2
theorem zvm.low{nb:Nat}{cs:Nat×List PV}{g:Nat}(h:zvm P w Fr β cs g)(hl:lows nb cs.2=true):zvm P w Fr (β.take nb) cs g:=by
 rcases h with⟨vs,e,h1,h2,h3⟩|⟨f,k,s,live,snap,h0,r,h1,h2,h3,h4,h5⟩
 ·exact .inl ⟨vs,e,h1,zll cs.2 vs hl h2,h3⟩
 ·refine .inr ⟨f,k,s,live,snap,h0,r,h1,h2,h3,h4,fun i=>z9m _ _ (z9n live snap i ?_) (h5 i)⟩
  rw[h0]at hl;simpa[lows,PV.low]using hl
theorem Rel.cut(R:Rel P T base M w0 F0 nt st a w Fr β){nb:Nat}(hsl:∀i,look st'.sl i=.unk\/(look st'.sl i=look st.sl i/\(look st.sl i).low nb=true))(hbx:st'.bx=st.bx.take nb)(hlow:∀cs∈st.bx.take nb,lows nb cs.2=true)
 (how:∀L∈st'.ow,L∈st.ow/\(∀i,L=.slot i->look st'.sl i=look st.sl i)/\(∀b j,L=.cell b j->b<nb)) (hal:st'.al=[]):Rel P T base M w0 F0 nt st' a w Fr (β.take nb):=by
 have hval:∀L∈st'.ow,∀v,zay a w (β.take nb) L=some v->zay a w β L=some v:=fun L hL v h=>by
  cases L with
  |slot i=>exact h
  |cell b j=>
   simp only[zay]at h⊢;rwa[wbz ((how _ hL).2.2 b j rfl)]at h
 have hval2:∀L∈st'.ow,∀v,zay a w β L=some v->zay a w (β.take nb) L=some v:=fun L hL v h=>by
  cases L with
  |slot i=>exact h
  |cell b j=>
   simp only[zay]at h⊢;rwa[wbz ((how _ hL).2.2 b j rfl)]
 have hpv:∀L∈st'.ow,∀p,pvAt st L=some p->pvAt st' L=some p:=fun L hL p h=>by
  cases L with
  |slot i=>simp only[pvAt]at h⊢;rw[(how _ hL).2.1 i rfl];exact h
  |cell b j=>
   simp only[pvAt]at h⊢;rwa[hbx,wbz ((how _ hL).2.2 b j rfl)]
 refine⟨fun i=>?_,R.nt,R.df,⟨by rw[hbx,wa2,wa2,R.bx.1],fun b cs hcs=>?_⟩,R.nd.sublist (List.take_sublist _ _),fun L hL=>?_,fun L hL L' hL' hne v v' g hv hv'=>R.sep L (how L hL).1 L' (how L' hL').1 hne v v' g (hval L hL v hv) (hval L' hL' v' hv'),fun L hL v g hv hg hm=>R.out L (how L hL).1 v g (hval L hL v hv) hg (waj hm),(fun q hq=>by rw[hal]at hq;cases hq),fun g hg=>?_,R.old,R.ge,R.os,R.tape,R.output⟩
 ·rcases hsl i with h|⟨h1,h2⟩
  ·rw[h];simp[Rd]
  ·rw[h1];exact z9m _ _ h2 (R.sl i)
 ·rw[hbx]at hcs
  have hb:b<nb:=by
   have:=(qg hcs).1;rw[wa2]at this;omega
  have hl:=hlow cs (wao hcs);rw[wbz hb]at hcs;obtain⟨g,h1,h2,h3⟩:=R.bx.2 b cs hcs;exact⟨g,by rw[wbz hb];exact h1,h2,h3.low hl⟩
 ·obtain⟨v,p,k1,k2,k3⟩:=R.own L (how L hL).1
  exact⟨v,p,hval2 L hL v k1,hpv L hL p k2,k3⟩
 ·refine R.may g (hg.imp waj ?_)
  rintro⟨L,hL,v,hv,hg⟩;exact⟨L,(how L hL).1,v,hval L hL v hv,hg⟩
theorem Rel.cut0(R:Rel P T base M w0 F0 nt st a w Fr β)(hsl:∀i,look st'.sl i=.unk\/look st'.sl i=look st.sl i)(hbx:st'.bx=st.bx)(how:∀L∈st'.ow,L∈st.ow/\∀i,L=.slot i->look st'.sl i=look st.sl i)(hal:st'.al=[]):Rel P T base M w0 F0 nt st' a w Fr β:=by
 have hpv:∀L∈st'.ow,pvAt st' L=pvAt st L:=fun L hL=>by
  cases L with
  |slot i=>simp only[pvAt];rw[(how _ hL).2 i rfl]
  |cell b j=>simp only[pvAt,hbx]
 exact⟨fun i=>by
  rcases hsl i with h|h
  ·rw[h];simp[Rd]
  ·rw[h];exact R.sl i,R.nt,R.df,by rw[hbx];exact R.bx,R.nd,fun L hL=>by rw[hpv L hL];exact R.own L (how L hL).1,fun L hL L' hL'=>R.sep L (how L hL).1 L' (how L' hL').1,fun L hL=>R.out L (how L hL).1,(fun q hq=>by rw[hal]at hq;cases hq),
  fun g hg=>R.may g (hg.imp id fun⟨L,k1,k2⟩=>⟨L,(how L k1).1,k2⟩),R.old,R.ge,R.os,R.tape,R.output⟩
theorem zqx(sl:List (Nat×PV)):∀(l:List Nat)(i:Nat),look (l.map fun j=>(j,look sl j)) i=if i∈l then look sl i else .unk
 |[],i=>rfl
 |j::l,i=>by
  rw[wax,za4,zqx sl l i];by_cases h:j=i
  ·subst h;simp
  ·simp[h,was h]
theorem ypv{S:S0}(h:Le S.sw S.sF S.sβ w Fr β):S.sβ.length<=β.length:=by
 rcases wcn β.length S.sβ.length with h1|h1
 ·have:=h.box β.length _ (qe h1)
  rw[wb8 (wab _)]at this;cases this
 ·exact h1
theorem Rl.only0(h:Rl P S st a w)(live:List Nat){nb:Nat}(hnb:S.sβ.length<=nb):Rl P S (st.only0 live nb) a w:=by
 obtain⟨Fr,β,R,hl⟩:=h;have hsl:∀i,look (st.only0 live nb).sl i=if i∈live then look st.sl i else .unk:=fun i=>zqx st.sl live i
 have howm:∀L,L∈(st.only0 live nb).ow->L∈st.ow/\(∀i,L=.slot i->i∈live)/\∀b j,L=.cell b j->b<(trim nb (live.map (look st.sl)) st.bx).length:=fun L hL=>by
  simp only[St.only0,wak,wbv,wbw,decide_eq_true_eq]at hL;rcases hL with⟨j,⟨h1,h2⟩,rfl⟩|⟨h1,h2⟩
  ·exact⟨h2,(fun i e=>by cases e;exact h1),fun b k e=>by cases e⟩
  ·refine⟨h1,fun i e=>?_,fun b j e=>?_⟩
   ·subst e;cases h2
   ·subst e;simpa using h2
 by_cases h1:(trim nb (live.map (look st.sl)) st.bx)=st.bx
 ·refine⟨Fr,β,R.cut0 (fun i=>?_) h1 (fun L hL=>⟨(howm L hL).1,fun i e=>?_⟩) rfl,hl⟩
  ·rw[hsl];split
   ·exact .inr rfl
   ·exact .inl rfl
  ·rw[hsl,if_pos ((howm L hL).2.1 i e)]
 ·have h2:lows nb (live.map (look st.sl))=true/\(st.bx.take nb).all (fun q=>lows nb q.2)=true/\trim nb (live.map (look st.sl)) st.bx=st.bx.take nb:=by
   unfold trim at h1⊢;split at h1
   ·exact absurd rfl h1
   ·rename_i hne
    split at h1
    ·rename_i hc
     rw[if_neg hne,if_pos hc];simp only[wb1]at hc;exact⟨hc.1,hc.2,rfl⟩
    ·exact absurd rfl h1
  obtain⟨k1,k2,k3⟩:=h2;have lowat:∀(l:List Nat),lows nb (l.map (look st.sl))=true->∀i∈l,(look st.sl i).low nb=true:=by
   intro l
   induction l with
   |nil=>intro _ i hi;cases hi
   |cons j l ih=>
    intro h i hi;simp only[wax,lows,wb1]at h;rcases waq.1 hi with rfl|hi
    ·exact h.1
    ·exact ih h.2 i hi
  refine⟨Fr,β.take nb,R.cut (nb:=nb) (fun i=>?_) k3 (fun cs hcs=>wa9.1 k2 cs hcs) (fun L hL=>⟨(howm L hL).1,fun i e=>?_,fun b j e=>?_⟩) rfl,⟨hl.size,hl.fr,hl.cell,fun i g hg=>?_,hl.lp⟩⟩
  ·rw[hsl];split
   ·rename_i hi;exact .inr ⟨rfl,lowat live k1 i hi⟩
   ·exact .inl rfl
  ·rw[hsl,if_pos ((howm L hL).2.1 i e)]
  ·have:=(howm L hL).2.2 b j e
   rw[k3,wa2]at this;omega
  ·have:i<nb:=wad (qg hg).1 hnb
   rw[wbz this];exact hl.box i g hg
theorem Rl.only(h:Rl P S st a w)(live:List Nat){nb:Nat}(hnb:S.sβ.length<=nb):Rl P S (st.only live nb) a w:=(h.nrm live).only0 live hnb
theorem zqy{α γ:Type}{f:α->Option γ}:∀{l:List α}{r:List γ},l.mapM f=some r->r.length=l.length/\∀(j:Nat)(c:γ),r[j]?=some c->∃o,l[j]?=some o/\f o=some c
 |[],r,h=>by simp at h;subst h;exact⟨rfl,fun j c hj=>by simp at hj⟩
 |x::l,r,h=>by
  rw[wa8]at h;obtain⟨y,hy,h⟩:=qb h;obtain⟨s,hs,h⟩:=qb h;cases h;obtain⟨h1,h2⟩:=zqy hs;refine⟨by simp[h1],fun j c hj=>?_⟩;cases j with
  |zero=>simp at hj;subst hj;exact⟨x,rfl,hy⟩
  |succ j=>exact h2 j c (by simpa using hj)
theorem z38(hm:P.follows .mixedOrders=true)(hcf:zcj P Γ cf)(hS:Good Γ S){id:Nat}{ops:Array Oper}{draw:Bool}{q:List COper×List COper}(hc:z1k P S.nt ops draw=some q){stk stF:St}(h1:zij cf q.1 st=some stk)(h2:zdc cf q.2 stk=some stF)
 (hal:st.al=[]) (hr:Rl P S st a w) {Q:Exit->Act->World->Prop} (hK:∀a' w',Rl P S stF a' w'->Q .normal a' w'):(Code.region id ops draw).wpIn (fw r) 0 P Q a w:=by
 unfold z1k at hc;obtain⟨cs,hcs,hc⟩:=qb hc;obtain⟨hlen,hget⟩:=zqy hcs;have hco:∀(j:Nat)(c:COper),cs[j]?=some c->∃o,ops[j]?=some o/\zmi P S.nt ops (ops.toList.filterMap z34) o=some c:=fun j c hj=>by
  obtain⟨o,k1,k2⟩:=hget j c hj;exact⟨o,by rw[<-wb6];exact k1,k2⟩
 cases draw with
 |false=>
  simp only[wbf,if_false,war]at hc;subst hc;simp only[zij,war]at h1;subst h1;refine wpIn_region ?_;have:=yec (r:=r) (rest:=[]) hcf hS (Q:=Q) cs 0 st a w (fun j c hj=>by rw[wbx];exact hco j c hj) h2 hr (fun a' w' hr'=>by unfold wpOpsIn;exact hK a' w' hr');rw[wcf,hlen,wb5,<-List.range_eq_range']at this;exact this
 |true=>
  simp only[if_true]at hc;obtain⟨k,hk,rfl⟩:=qm hc;have hok:=List.find?_some hk;have hzl:(List.zipWith cpO ops.toList cs).length=cs.length:=by rw[List.length_zipWith];omega
  have hkc:k<=cs.length:=by
   have h9:=hok;unfold z9i at h9;simp only[wb1,decide_eq_true_eq]at h9;have h10:=h9.1.1.1.1.1;rw[wb0,wa2,wbc,hzl]at h10;omega
  have htl:((List.zipWith cpO ops.toList cs).take k).length=k:=by rw[wa2,hzl];omega
  have hco2:∀(j:Nat)(c:COper),((List.zipWith cpO ops.toList cs).take k++cs.drop k)[j]?=some c->∃o,ops[j]?=some o/\CoR P S.nt ops (ops.toList.filterMap z34) o c:=fun j c hj=>by
   by_cases hjk:j<k
   ·rw[waa (by omega),wbz hjk]at hj
    obtain⟨o,c0,h3,h4,rfl⟩:=List.getElem?_zipWith_eq_some.1 hj;obtain⟨o',k1,k2⟩:=hco j c0 h4;have:o'=o:=by
     rw[wb6]at h3;rw[k1]at h3;exact wb9 h3
    subst this;exact⟨o',k1,yws k2⟩
   ·rw[wbr (by omega),htl,wal,show k+(j - k)=j by omega]at hj
    obtain⟨o,k1,k2⟩:=hco j c hj;exact⟨o,k1,.inl k2⟩
  refine wpIn_region_any hm ?_;have hr':Rl P S st a {w with drawn:=w.drawn+1}:=by
   obtain⟨Fr,β,R,hl⟩:=hr;have hb:Below w.heap.size w {w with drawn:=w.drawn+1}:=⟨rfl,rfl,rfl,wab _,fun _ _=>rfl⟩;obtain⟨R',hl'⟩:=R.grow hb (Fr':=Fr) (fun _ _=>rfl);exact⟨Fr,β,R',hl.trans hl'⟩
  refine ykf hcf hS hok (by rw[wb0,htl,wbc];rw[hlen,wb5]at*;omega) hco2 hal (stk:=stk) (stF:=stF) ?_ ?_ hr' hK
  ·rw[wcz (by omega),wco (by omega)];exact h1
  ·rw[List.drop_append_of_le_length (by omega),wc0 (by omega),wa5];exact h2
theorem z1l(hm:P.follows .mixedOrders=true)(hcf:zcj P Γ cf)(hS:Good Γ S){id:Nat}{ops:Array Oper}{qs:List FuncId}{q:List COper×BT}(hc:z35 P qs S.nt ops=some q){live:List Nat}{stk F:St}(h1:evQ cf q.1 st=some stk)(h2:evT cf live q.2 stk=some F)
 (hal:st.al=[]) (hr:Rl P S st a w) {Q:Exit->Act->World->Prop} (hK:∀s a' w',s.keep live=F->Rl P S s a' w'->Q .normal a' w'):(Code.region id ops true).wpIn (fw r) 0 P Q a w:=by
 unfold z35 at hc;obtain⟨cs,hcs',hc⟩:=qb hc;obtain⟨cs0,hcs,rfl⟩:=qm hcs';obtain⟨hlen,hget⟩:=zqy hcs;split at hc
 case isFalse=>cases hc
 rename_i hok;cases hc;refine wpIn_region_any hm ?_;have hr':Rl P S st a {w with drawn:=w.drawn+1}:=by
  obtain⟨Fr,β,R,hl⟩:=hr;have hb:Below w.heap.size w {w with drawn:=w.drawn+1}:=⟨rfl,rfl,rfl,wab _,fun _ _=>rfl⟩;obtain⟨R',hl'⟩:=R.grow hb (Fr':=Fr) (fun _ _=>rfl);exact⟨Fr,β,R',hl.trans hl'⟩
 exact yej hcf hS (ali:=ops.toList.filterMap z34) hok (fun j c hj=>by
  rw[wbu]at hj;obtain⟨c0,hj2,rfl⟩:=qm hj;obtain⟨o,k1,k2⟩:=hget j c0 hj2;exact⟨o,by rw[<-wb6];exact k1,ywu k2⟩) hal h1 h2 hr' hK
theorem yek{live:List Nat}:∀(t:BT)(s F:St),evT cf live t s=some F->F.al=[]
 | .done,s,F,h=>by simp only[evT,war]at h;subst h;rfl
 | .one o t,s,F,h=>by
   simp only[evT]at h;obtain⟨s',_,h2⟩:=qb h;exact yek t s' F h2
 | .two o t r,s,F,h=>by
   simp only[evT]at h;exact yek r s F (zqw h).2
theorem z39{body:St->Option (Out×St)}{live:List Nat}{nb:Nat}(hb:∀st o st',body st=some (o,st')->st.al=[]->st'.al=[]):∀(n:Nat)(st:St)(o:Out)(st':St),zcn body live nb n st=some (o,st')->st.al=[]->st'.al=[]
 |0,_,_,_,h,_=>by cases h
 |n+1,st,o,st',h,hal=>by
  simp only[zcn]at h;obtain⟨⟨o1,s1⟩,h1,h2⟩:=qb h;have ha:=hb _ _ _ h1 hal;cases o1 with
  |normal=>exact z39 hb n _ o st' h2 rfl
  |exit id=>cases h2;exact ha
  |ret=>cases h2;exact ha
theorem yb4{f k:Nat}{live:List Nat}{g:PV}{o:Out}(h:zhq cf f k live g st=some (o,st'))(ha:st.al=[]):st'.al=[]:=by
 unfold zhq at h;split at h
 case h_2=>cases h
 split at h
 ·cases h
 obtain⟨s2,h1,h2⟩:=qb h;have h3:s2.al=[]:=by
  unfold callBx at h1;obtain⟨⟨vs,os,bx,oc⟩,_,rfl⟩:=qm h1;simp[ha]
 split at h2
 ·split at h2<;>first|(cases h2;exact h3)|cases h2
 ·cases h2
theorem zqz{n:Nat}:∀(c:CCode)(st:St)(o:Out)(st':St),evC cf n c st=some (o,st')->st.al=[]->st'.al=[]
 | .skip,st,o,st',h,ha=>by cases h;exact ha
 | .reg live pre tail,st,o,st',h,ha=>by
   simp only[evC]at h;obtain⟨s,_,h⟩:=qm h;cases h;rfl
 | .regT live pre t,st,o,st',h,ha=>by
   simp only[evC]at h;obtain⟨s,h1,h⟩:=qm h;obtain⟨sk,_,h2⟩:=qb h1;cases h;exact yek t sk _ h2
 | .seq a b,st,o,st',h,ha=>by
   simp only[evC]at h;obtain⟨⟨o1,s1⟩,h1,h2⟩:=qb h;have h3:=zqz a st o1 s1 h1 ha;cases o1 with
   |normal=>exact zqz b s1 o st' h2 h3
   |exit id=>cases h2;exact h3
   |ret=>cases h2;exact h3
 | .cond x a b,st,o,st',h,ha=>by
   simp only[evC]at h;split at h
   ·split at h
    ·exact zqz a st o st' h ha
    ·exact zqz b st o st' h ha
   ·cases h
 | .block id b,st,o,st',h,ha=>by
   simp only[evC]at h;obtain⟨⟨o1,s1⟩,h1,h2⟩:=qm h;have h3:=zqz b st o1 s1 h1 ha;cases o1 with
   |normal=>cases h2;rfl
   |exit j=>
    dsimp only at h2;split at h2
    ·cases h2;rfl
    ·cases h2;exact h3
   |ret=>cases h2;exact h3
 | .loop live b,st,o,st',h,_=>by
   simp only[evC]at h;exact z39 (fun st o st' h ha=>zqz b st o st' h ha) n _ o st' h rfl
 | .range f k live g,st,o,st',h,ha=>by
   simp only[evC]at h;exact yb4 h ha
 | .exit id live,st,o,st',h,ha=>by cases h;rfl
 | .ret live,st,o,st',h,ha=>by cases h;rfl
theorem Rl.keep0(h:Rl P S st a w)(live:List Nat):Rl P S (st.keep0 live) a w:=by
 obtain⟨Fr,β,R,hl⟩:=h;have hsl:∀i,look (st.keep0 live).sl i=if i∈live then look st.sl i else .unk:=fun i=>zqx st.sl live i
 refine⟨Fr,β,R.cut0 (fun i=>?_) rfl (fun L hL=>?_) rfl,hl⟩
 ·rw[hsl];split
  ·exact .inr rfl
  ·exact .inl rfl
 ·simp only[St.keep0,wak,wbv,wbw,decide_eq_true_eq]at hL
  rcases hL with⟨j,⟨h1,h2⟩,rfl⟩|⟨h1,h2⟩
  ·exact⟨h2,fun i e=>by cases e;rw[hsl,if_pos h1]⟩
  ·exact⟨h1,fun i e=>by subst e;cases h2⟩
theorem Rl.keep(h:Rl P S st a w)(live:List Nat):Rl P S (st.keep live) a w:=(h.nrm live).keep0 live
theorem yel{nb:Nat}:∀(sl:List (Nat×PV))(i:Nat),lows nb (sl.map (·.2))=true->(look sl i).low nb=true
 |[],i,_=>by simp[look,PV.low]
 |(j,p)::r,i,h=>by
  simp only[wax,lows,wb1]at h;rw[za4];split
  ·exact h.1
  ·exact yel r i h.2
theorem Rl.cutB(h:Rl P S st a w){nb:Nat}(hnb:S.sβ.length<=nb):Rl P S (st.cutB nb) a w:=by
 obtain⟨Fr,β,R,hl⟩:=h;by_cases h1:(trim nb (st.sl.map (·.2)) st.bx)=st.bx
 ·refine⟨Fr,β,R.cut0 (fun i=>.inr rfl) h1 (fun L hL=>?_) rfl,hl⟩
  simp only[St.cutB,h1,if_true]at hL;exact⟨hL,fun i _=>rfl⟩
 ·have h2:lows nb (st.sl.map (·.2))=true/\(st.bx.take nb).all (fun q=>lows nb q.2)=true/\trim nb (st.sl.map (·.2)) st.bx=st.bx.take nb:=by
   unfold trim at h1⊢;split at h1
   ·exact absurd rfl h1
   ·rename_i hne
    split at h1
    ·rename_i hc
     rw[if_neg hne,if_pos hc];simp only[wb1]at hc;exact⟨hc.1,hc.2,rfl⟩
    ·exact absurd rfl h1
  obtain⟨k1,k2,k3⟩:=h2;have hne:(st.bx.take nb).length≠st.bx.length:=fun e=>h1 (by
   rw[k3];have:st.bx.length<=nb:=by rw[wa2]at e;omega
   exact wco this)
  have howm:∀L,L∈(st.cutB nb).ow->L∈st.ow/\∀b j,L=.cell b j->b<nb:=fun L hL=>by
   simp only[St.cutB,k3,if_neg hne]at hL;obtain⟨m1,m2⟩:=wbw.1 hL;refine⟨m1,fun b j e=>?_⟩;subst e;have:b<(st.bx.take nb).length:=by simpa using m2
   rw[wa2]at this;omega
  refine⟨Fr,β.take nb,R.cut (nb:=nb) (fun i=>.inr ⟨rfl,yel _ i k1⟩) k3 (fun cs hcs=>wa9.1 k2 cs hcs) (fun L hL=>⟨(howm L hL).1,fun i _=>rfl,(howm L hL).2⟩) rfl,⟨hl.size,hl.fr,hl.cell,fun i g hg=>?_,hl.lp⟩⟩;have:i<nb:=wad (qg hg).1 hnb;rw[wbz this];exact hl.box i g hg
theorem z7c{fr:FuncId}{tmps:Array Value}{ps:Array Tmp}{az b:Code}(hrd:∀l,r=some l->∃rec,w.heap[l]?=some (Obj.loop rec)):
 ∃l mk w1 df,(Instr.enterLoop fr tmps ps az b r).run P w=.ok (l,mk) w1/\Below w.heap.size w w1/\w.heap.size<=l/\w1.heap[l]?=some (.loop {state:=.ready,pending:=none,fn:=fr,tmps,params:=ps,assign:=az,body:=b,defers:=df})/\
  (mk=[]\/∃D,mk=[mark D]/\w.heap.size<=D/\w1.heap[D]?=some (.deferred (some []))):=by
 cases r with
 |none=>
  refine⟨_,_,_,w.heap.size,run_enterLoop_outer fr tmps ps az b,(zil w _).alloc (by rw[wc1];omega) _,by omega,?_,.inr ⟨w.heap.size,rfl,wab _,?_⟩⟩
  ·have:=World.alloc_heap_new (w.alloc (.deferred (some []))) (.loop {state:=.ready,pending:=none,fn:=fr,tmps,params:=ps,assign:=az,body:=b,defers:=w.heap.size})
   rw[wc1]at this;exact this
  ·have hb:Below (w.alloc (.deferred (some []))).heap.size (w.alloc (.deferred (some []))) ((w.alloc (.deferred (some []))).alloc (.loop {state:=.ready,pending:=none,fn:=fr,tmps,params:=ps,assign:=az,body:=b,defers:=w.heap.size})):=zil _ _
   rw[hb.block w.heap.size (by rw[wc1];omega)];exact World.alloc_heap_new w _
 |some l0=>
  obtain⟨r0,h0⟩:=hrd l0 rfl;refine⟨w.heap.size,[],w.alloc (.loop {state:=.ready,pending:=none,fn:=fr,tmps,params:=ps,assign:=az,body:=b,defers:=r0.defers}),r0.defers,?_,zil w _,wab _,World.alloc_heap_new w _,.inl rfl⟩;unfold Instr.enterLoop;simp only[wav,run_newObj_alloc,Result.andThen,wbg,run_getLoop h0]
theorem z7d(hcf:zcj P Γ cf)(hS:Good Γ S){f k:Nat}{live:List Nat}{g:Operand}{ps:Array Tmp}{az b:Code}{y:X}(hy:coX g=some y)(hat:rangeAt P f k=some (g,ps,az,b))(hfn:∃fn,P.funcs[f]?=some fn/\S.nt=fn.ntmps)
 (hrd:∀l,r=some l->∃rec,S.sw.heap[l]?=some (Obj.loop rec)) {o:Out} (he:zhq cf f k live (y.ev st.sl) st=some (o,st')) (hr:Rl P S st a w) {Q:Exit->Act->World->Prop} (hK:∀a' w',Rl P S st' a' w'->Q o.ex a' w'):(Code.rangeFunc g ps az b).wpIn (fw r) 0 P Q a w:=by
 obtain⟨Fr,β,R,hl⟩:=hr;unfold zhq at he;split at he
 case h_2=>cases he
 rename_i h caps e1;split at he
 ·cases he
 rename_i hne;obtain⟨s2,h1,h2⟩:=qb he;have hx:=zbo R.sl hy;rw[e1]at hx;simp only[Rd]at hx;obtain⟨cvs,hxv,hcr⟩:=hx;refine wpIn_rangeFunc fun fr _=>?_
 obtain⟨l,mk,w1,df,k1,hb,k2,k3,k4⟩:=z7c (P:=P) (w:=w) (fr:=fr) (tmps:=a.tmps) (ps:=ps) (az:=az) (b:=b) (r:=r) fun l0 e=>by
  obtain⟨rec,hrec⟩:=hrd l0 e;exact hl.lp _ _ hrec
 obtain⟨R1,hl1⟩:=R.addBox (Fr':=upd Fr l 0) (l:=l) (cs:=(0,[.lp f k .ready live (live.map (look st.sl))])) hb (fun g h=>zsg (wad h k2)) k2 (by simp[upd]) fun hl1=>.inr ⟨f,k,.ready,live,_,rfl,_,k3,by
  obtain⟨fn,q1,q2⟩:=hfn;exact⟨fn,q1,by rw[<-q2];exact R.nt⟩,⟨g,hat⟩,⟨rfl,rfl⟩,fun i=>by
  have:look (live.zip (live.map (look st.sl))) i=if i∈live then look st.sl i else .unk:=by
   rw[<-zqx st.sl live i];congr 1;rw[List.zip_map_right];clear h1 h2 he hK
   induction live with
   |nil=>rfl
   |cons j l ih=>simp only[List.zip_cons_cons,wax];rw[ih];rfl
  rw[this];split
  ·exact(R.sl i).mono hl1
  ·simp[Rd]⟩
 have hbl:st.bx.length=β.length:=R.bx.1;have R1':Rel P S.T S.base S.M S.w0 S.F0 S.nt {st with bx:=st.bx++[(0,[.lp f k .ready live (live.map (look st.sl))])]} {a with defers:=mk++a.defers} w1 (upd Fr l 0) (β++[l]):=by
  rcases k4 with rfl|⟨D,rfl,k5,k6⟩
  ·exact R1
  ·refine R1.addMark (wac R.ge k5) k6 fun Ds' e hm=>?_
   obtain⟨Ds,d1,d2,d3⟩:=R.df;rw[d2]at e;rw[<-zvs e]at hm;have:=(wan.1 (d3 D hm).2).1;omega
 have hbox:(β++[l])[st.bx.length]?=some l:=by rw[hbl,wbr (wab _)];simp
 have hargs:Rds w1 (upd Fr l 0) (β++[l]) (.yld st.bx.length::caps) (.func (.yield l) #[] #[]::cvs):=by
  simp only[Rds];exact⟨_,_,rfl,by simp only[Rd];exact⟨l,hbox,rfl⟩,Rds.mono hl1 _ _ hcr⟩
 have hen:=z1e hcf (S:={S with sw:=w1,sF:=upd Fr l 0,sβ:=β++[l]}) h1 (fun d h=>by cases h) R1' (Le.refl _ _ _) hargs (hS.at R1') hS.dis (K:=fun a' w'=>Rl P {S with sw:=w1,sF:=upd Fr l 0,sβ:=β++[l]} s2 a' w') (fun a' w' h=>h);unfold Enters at hen;rw[if_neg hne]at hen;obtain⟨hent,hcall⟩:=hen;refine⟨l,mk,w1,{target:=.fn (.func h) cvs.toArray,args:=#[.func (.yield l) #[] #[]]},w1,h,(.func (.yield l) #[] #[]::cvs).toArray,w1,k1,?_,fun _ _=>trivial,?_,(fun h=>by cases h),?_⟩
 ·have:a.eval g=.func (.func h) #[] cvs.toArray:=hxv
  simp only[rangeCall,resolve,this,Deferred.ofValue,wav,wbg];simp[Act.eval]
 ·have:=zvu (P:=P) (w:=w1) hent (args:=(.func (.yield l) #[] #[]::cvs).toArray)
  rw[<-this];simp only[invoke];congr 2;apply wba;simp
 ·refine z9g.2 (hcall.mono fun e w3 hq=>?_)
  obtain⟨v,rfl,Fr3,β3,R3,hl3⟩:=hq;have ha3:({a with defers:=mk++a.defers}:Act).put none v={a with defers:=mk++a.defers}:=rfl;rw[ha3]at R3;simp only[rangePost];have hb3:β3[st.bx.length]?=some l:=hl3.box _ _ hbox;split at h2
  case h_2=>cases h2
  rename_i e0 f' k' s live' snap' hs2;obtain⟨g3,b1,b2,b3⟩:=R3.bx.2 _ _ hs2;rw[hb3]at b1;cases b1;have hrec:LpR P w3 Fr3 β3 f' k' s live' snap' l:=by
   rcases b3 with⟨vs,e,_,h2,_⟩|⟨_,_,_,_,_,he,h1⟩
   ·simp only[Rds]at h2;obtain⟨_,_,_,h2,_⟩:=h2;simp only[Rd]at h2
   ·cases he;exact h1
  obtain⟨r3,q1,q2,q3,q4,q5⟩:=hrec;have fin:r3.state≠.busy->∀o1:Out,(o1=o/\{s2 with bx:=s2.bx.set st.bx.length (0,[.lp f' k' .over live' snap'])}=st')->(o1=.normal/\r3.pending=none\/∃j:Jmp,r3.pending=some j.code/\o1=(match j with| .exit i=>.exit i| .ret=>.ret))->∃jump w₄,(Instr.endLoop l).run P w3=.ok jump w₄/\(match jump with
   |none=>Q .normal {a with defers:=mk++a.defers} w₄
   |some c=>c.wpIn (fw r) 0 P Q {a with defers:=mk++a.defers} w₄):=fun hbusy o1 ho hj=>by
   obtain⟨rfl,rfl⟩:=ho;obtain⟨R4,hl4⟩:=R3.setLp (r':={r3 with state:=.exhausted}) (f':=f') (k':=k') (s':=.over) (live':=live') (snap':=snap') hs2 hb3 fun hl4=>⟨_,World.putObj_heap_same (wan.1 q1).1,q2,q3,trivial,fun i=>(q5 i).mono hl4⟩
   have hfin:=hK _ _ ⟨Fr3,β3,R4,(hl.trans hl1).trans (hl3.trans hl4)⟩;refine⟨_,_,run_endLoop q1 hbusy,?_⟩;rcases hj with⟨rfl,hp⟩|⟨j,hp,rfl⟩
   ·rw[hp]at hfin⊢;exact hfin
   ·rw[hp]at hfin⊢
    cases j with
    |exit i=>exact wpIn_exit hfin
    |ret=>exact wpIn_ret hfin
  dsimp only at h2;split at h2
  ·cases h2
   exact fin (by rw[q4.1];simp) .normal ⟨rfl,rfl⟩ (.inl ⟨rfl,q4.2⟩)
  ·rename_i i
   cases h2;exact fin (by rw[q4.1];simp) (.exit i) ⟨rfl,rfl⟩ (.inr ⟨.exit i,q4.2,rfl⟩)
  ·cases h2
   exact fin (by rw[q4.1];simp) .ret ⟨rfl,rfl⟩ (.inr ⟨.ret,q4.2,rfl⟩)
  ·cases h2
theorem zv1{F:Fence}{n:Nat}{P:Program}{a:Act}{w:World}{Q:Exit->Act->World->Prop}{c:Code}(h:c.wpIn F n P (fun e a w=>Q e a w/\∀l,e≠.goto l) a w):(Code.scope c).wpIn F n P Q a w:=by
 intro b k cs hro hb hr;have st1:∀(a:Act)(w:World),step P (lone (b.atR a (.code (.scope c)::k)) cs w)=.next (lone (b.atR a (.code c::.inScope c::k)) cs w):=fun a w=>step_lone_go (by simp[Go.stepG,Go.stepG.exec,Frame.atR])
 have st2:∀(a:Act)(w:World),step P (lone (b.atR a (.inScope c::k)) cs w)=.next (lone (b.atR a k) cs w):=fun a w=>step_lone_go (by simp[Go.stepG,Go.stepG.exec,Frame.atR])
 have h0:(lone (b.atR a (.code (.scope c)::k)) cs w).fenced P F:=fenced_calm hb hr rfl;obtain⟨e,a₁,w₁,⟨hq,hg⟩,harr⟩:=h b (.inScope c::k) cs hro hb hr;refine⟨e,a₁,w₁,hq,.of_steps (.one h0 (st1 a w)) ?_⟩;cases e with
 |normal=>exact StepsIn.trans harr (.one (fenced_calm hb hr rfl) (st2 _ _))
 |exit id=>exact⟨fun k' hk=>harr.1 k' (by simp[exitTo,hk]),fun hr' hk=>harr.2 hr' (by simp[exitTo,hk])⟩
 |goto l'=>exact(hg _ rfl).elim
 |ret=>exact harr
 |panic ch=>exact harr
 |outgrown=>exact harr
theorem Out.ex_goto(o:Out)(l:Nat):o.ex≠.goto l:=by cases o<;>simp[Out.ex]
theorem zii(hm:P.follows .mixedOrders=true)(hcf:zcj P Γ cf)(hS:Good Γ S){n:Nat}{f:Nat}(hfn:∃fn,P.funcs[f]?=some fn/\S.nt=fn.ntmps)(hrd:∀l,r=some l->∃rec,S.sw.heap[l]?=some (Obj.loop rec)):
 ∀(code:Code)(k0:Nat)(lv:List (List Nat))(c:CCode)(lv':List (List Nat)),zc2 P qs f S.nt k0 lv code=some (c,lv')->(∀j q,(zaw code)[j]?=some q->rangeAt P f (k0+j)=some q)->∀(st st':St)(o:Out)(a:Act)(w:World)(Q:Exit->Act->World->Prop),
 evC cf n c st=some (o,st')->st.al=[]->Rl P S st a w->(∀a' w',Rl P S st' a' w'->Q o.ex a' w')->code.wpIn (fw r) 0 P Q a w:=by
 intro code
 induction code with
 |skip=>
  intro k0 lv c lv' hc hra st st' o a w Q he _ hr hK;simp only[zc2]at hc;cases hc;cases he;exact wpIn_skip (hK a w hr)
 |region id ops draw=>
  intro k0 lv c lv' hc hra st st' o a w Q he hal hr hK;cases lv with
  |nil=>simp only[zc2]at hc;cases hc;exact(zjl he).elim
  |cons l lv=>
   simp only[zc2]at hc;split at hc
   case h_2=>cases hc;exact(zjl he).elim
   rename_i c0 hc0;cases hc;unfold ywv at hc0;have viaT:∀q:List COper×BT,z35 P qs S.nt ops=some q->draw=true->CCode.regT l q.1 q.2=c->(Code.region id ops draw).wpIn (fw r) 0 P Q a w:=fun q hq hd hc=>by
    cases hc;subst hd;simp only[evC]at he;obtain⟨sF,h1,h2⟩:=qm he;obtain⟨sk,h3,h4⟩:=qb h1;cases h2;exact z1l hm hcf hS hq h3 h4 hal hr fun s a' w' hs hr'=>hK a' w' (hs▸hr'.keep l)
   split at hc0
   ·rename_i hb
    obtain⟨q,hq,hc⟩:=qm hc0;simp only[wb1]at hb;exact viaT q hq hb.1 hc
   split at hc0
   ·rename_i q hq
    cases hc0;simp only[evC]at he;obtain⟨sF,h1,h2⟩:=qm he;obtain⟨sk,h3,h4⟩:=qb h1;cases h2;exact z38 hm hcf hS hq h3 h4 hal hr fun a' w' hr'=>hK a' w' (hr'.keep l)
   ·split at hc0
    ·rename_i hd
     obtain⟨q,hq,hc⟩:=qm hc0;exact viaT q hq hd hc
    ·cases hc0
 |seq x y ihx ihy=>
  intro k0 lv c lv' hc hra st st' o a w Q he hal hr hK;simp only[zc2]at hc;obtain⟨⟨c1,l1⟩,h1,hc⟩:=qb hc;obtain⟨⟨c2,l2⟩,h2,hc⟩:=qm hc;cases hc;simp only[evC]at he;obtain⟨⟨o1,s1⟩,h3,h4⟩:=qb he;refine wpIn_seq (ihx k0 lv c1 l1 h1 (fun j q hj=>hra j q (by simp only[zaw];rw[waa (qg hj).1];exact hj)) st s1 o1 a w _ h3 hal hr fun a' w' hr'=>?_);have ha1:=zqz c1 st o1 s1 h3 hal;cases o1 with
  |normal=>exact ihy _ l1 c2 l2 h2 (fun j q hj=>by
   have:=hra ((zaw x).length+j) q (by simp only[zaw];rw[wbr (by omega)];simpa using hj);rwa[<-wam]at this) s1 st' o a' w' Q h4 ha1 hr' hK
  |exit id=>cases h4;exact hK a' w' hr'
  |ret=>cases h4;exact hK a' w' hr'
 |cond x a1 b1 iha ihb=>
  intro k0 lv c lv' hc hra st st' o a w Q he hal hr hK;simp only[zc2]at hc;obtain⟨y,hy,hc⟩:=qb hc;obtain⟨⟨c1,l1⟩,h1,hc⟩:=qb hc;obtain⟨⟨c2,l2⟩,h2,hc⟩:=qm hc;cases hc;simp only[evC]at he;split at he
  ·rename_i t e1
   obtain⟨Fr,β,R,hl⟩:=hr;have hx:=zbo R.sl hy;rw[e1]at hx;obtain⟨hx,_⟩:=zbc hx;refine wpIn_cond hx ?_;cases t with
   |true=>
    simp only[if_true]at he⊢;exact iha k0 lv c1 l1 h1 (fun j q hj=>hra j q (by simp only[zaw];rw[waa (qg hj).1];exact hj)) st st' o a w Q he hal ⟨Fr,β,R,hl⟩ hK
   |false=>
    simp only[wbf,if_false]at he⊢;exact ihb _ l1 c2 l2 h2 (fun j q hj=>by
     have:=hra ((zaw a1).length+j) q (by simp only[zaw];rw[wbr (by omega)];simpa using hj);rwa[<-wam]at this) st st' o a w Q he hal ⟨Fr,β,R,hl⟩ hK
  ·cases he
 |block id b ih=>
  intro k0 lv c lv' hc hra st st' o a w Q he hal hr hK;simp only[zc2]at hc;obtain⟨⟨c1,l1⟩,h1,hc⟩:=qm hc;cases hc;simp only[evC]at he;obtain⟨⟨o1,s1⟩,h3,h4⟩:=qm he;have hnb:S.sβ.length<=st.bx.length:=by
   obtain⟨Fr,β,R,hl⟩:=hr;rw[R.bx.1];exact ypv hl
  refine wpIn_block (ih k0 lv c1 l1 h1 hra st s1 o1 a w _ h3 hal hr fun a' w' hr'=>?_);cases o1 with
  |normal=>cases h4;exact hK a' w' (hr'.cutB hnb)
  |ret=>cases h4;exact hK a' w' hr'
  |exit j=>
   dsimp only at h4;simp only[Out.ex,Exit.inBlock];split at h4
   ·rename_i e;cases h4;rw[if_pos e];exact hK a' w' (hr'.cutB hnb)
   ·rename_i e;cases h4;rw[if_neg e];exact hK a' w' hr'
 |loop b ih=>
  intro k0 lv c lv' hc hra st st' o a w Q he hal hr hK;cases lv with
  |nil=>simp only[zc2]at hc;cases hc;exact(zjl he).elim
  |cons l lv=>
   simp only[zc2]at hc;obtain⟨⟨c1,l1⟩,h1,hc⟩:=qm hc;cases hc;simp only[evC]at he;have hnb:S.sβ.length<=st.bx.length:=by
    obtain⟨Fr,β,R,hl⟩:=hr;rw[R.bx.1];exact ypv hl
   intro bf k cs hbf hff hrm;have key:∀(m:Nat)(s:St)(a:Act)(w:World),zcn (evC cf n c1) l st.bx.length m s=some (o,st')->s.al=[]->Rl P S s a w->∃e a' w',Q e a' w'/\ArrivesIn (Machine.fenced P (fw r)) P (lone (bf.atR a (.code b::.inLoop b::k)) cs w) bf k cs e a' w':=by
    intro m
    induction m with
    |zero=>intro s a w h;cases h
    |succ m ihm=>
     intro s a w h hal hr;simp only[zcn]at h;obtain⟨⟨o1,s1⟩,h3,h4⟩:=qb h;obtain⟨e,a1,w1,hq,harr⟩:=ih k0 lv c1 l1 h1 hra s s1 o1 a w (fun e a' w'=>e=o1.ex/\Rl P S s1 a' w') h3 hal hr (fun a' w' hr'=>⟨rfl,hr'⟩) bf (.inLoop b::k) cs hbf hff hrm;obtain⟨rfl,hr1⟩:=hq;cases o1 with
     |normal=>
      obtain⟨e2,a2,w2,hq2,harr2⟩:=ihm _ a1 w1 h4 rfl (hr1.only l hnb);exact⟨e2,a2,w2,hq2,.of_steps (StepsIn.trans harr (.one (fenced_calm hff hrm rfl) stepR_inLoop)) harr2⟩
     |exit id=>cases h4;exact⟨_,a1,w1,hK a1 w1 hr1,.pass (x:=.inLoop b) rfl (fun _ _=>.inl (by simp[Out.ex])) harr⟩
     |ret=>cases h4;exact⟨_,a1,w1,hK a1 w1 hr1,.pass (x:=.inLoop b) rfl (fun _ _=>.inl (by simp[Out.ex])) harr⟩
   obtain⟨e,a',w',hq,harr⟩:=key n _ a w he rfl (hr.only l hnb);exact⟨e,a',w',hq,.of_steps (.one (fenced_calm hff hrm rfl) stepR_loop) harr⟩
 |exit id=>
  intro k0 lv c lv' hc hra st st' o a w Q he _ hr hK;cases lv with
  |nil=>simp only[zc2]at hc;cases hc;exact(zjl he).elim
  |cons l lv=>
   simp only[zc2]at hc;cases hc;simp only[evC]at he;cases he;exact wpIn_exit (hK a w (hr.keep l))
 |ret=>
  intro k0 lv c lv' hc hra st st' o a w Q he _ hr hK;cases lv with
  |nil=>simp only[zc2]at hc;cases hc;exact(zjl he).elim
  |cons l lv=>
   simp only[zc2]at hc;cases hc;simp only[evC]at he;cases he;exact wpIn_ret (hK a w (hr.keep l))
 |rangeFunc g ps az b _ _=>
  intro k0 lv c lv' hc hra st st' o a w Q he hal hr hK;cases lv with
  |nil=>simp only[zc2]at hc;cases hc;exact(zjl he).elim
  |cons l lv=>
   simp only[zc2]at hc;obtain⟨y,hy,hc⟩:=qm hc;cases hc;simp only[evC]at he;exact z7d hcf hS hy (hra 0 _ rfl) hfn hrd he hr hK
 |scope b ih=>
  intro k0 lv c lv' hc hra st st' o a w Q he hal hr hK;simp only[zc2]at hc;exact zv1 (ih k0 lv c lv' hc hra st st' o a w _ he hal hr fun a' w' hr'=>⟨hK a' w' hr',fun l=>o.ex_goto l⟩)
 |label l=>
  intro k0 lv c lv' hc hra st st' o a w Q he _ hr hK;simp only[zc2]at hc;cases hc;cases he;exact wpIn_label (hK a w hr)
 |goto l=>intro k0 lv c lv' hc hra st st' o a w Q he;simp only[zc2]at hc;cases hc;exact(zjl he).elim
 |refuse s=>intro k0 lv c lv' hc hra st st' o a w Q he;simp only[zc2]at hc;cases hc;exact(zjl he).elim
end
end Nun
namespace Nun
open Go Go.RowKit
section
variable {P:Program} {w w':World} {Fr Fr':Nat→Nat} {β β':List Nat} {T:List Deferred} {base nt:Nat} {M:Nat→Prop} {w0:World} {F0:Nat→Nat} {st st':St} {a a':Act} {cf:Callee} {Γ:Glob} {S:S0}
theorem z4a:∀(ps:List PV)(k i:Nat),look (zik k ps) i=if k<=i then ps.getD (i - k) .unk else .unk
 |[],k,i=>by simp[zik,look]
 |p::ps,k,i=>by
  simp only[zik,za4];rw[z4a ps (k+1) i];by_cases h:k=i
  ·subst h;simp
  ·by_cases hlt:k<=i
   ·rw[if_neg h,if_pos hlt,if_pos (by omega)]
    have:i - k=(i - (k+1))+1:=by omega
    rw[this];rfl
   ·rw[if_neg h,if_neg hlt,if_neg (by omega)]
def z9o(a:Act):ResultVar->Sem Value
 | .tmp t=>pure (a.tmps.getD t undef)
 | .cell x t=>do loadVar t (<-asAddr (a.tmps.getD x undef))
theorem yb5(fn:Func)(a:Act):results fn a.tmps=(do
 let vs <-fn.results.mapM (z9o a)
 pure (if h:vs.size=1 then vs[0]else .tuple vs)):=by
 unfold results;congr 2
theorem yem{rs:List ResultVar}{cs:List (Sum Nat (Nat×Bool×Nat))}(R:Rel P T base M w0 F0 nt st a w Fr β):∀{rs:List ResultVar}{cs:List (Sum Nat (Nat×Bool×Nat))}{vs:List PV},rs.mapM (zv0 P)=some cs->cs.mapM (resV st)=some vs->
 ∃us,(rs.mapM (z9o a)).run P w=.ok us w/\Rds w Fr β vs us
 |[],cs,vs,h1,h2=>by
  simp at h1;subst h1;simp at h2;subst h2;exact⟨[],rfl,by simp[Rds]⟩
 |r::rs,cs,vs,h1,h2=>by
  rw[wa8]at h1;obtain⟨c,hc,h1⟩:=qb h1;obtain⟨cs',hcs,h1⟩:=qb h1;cases h1;rw[wa8]at h2;obtain⟨p,hp,h2⟩:=qb h2;obtain⟨ps,hps,h2⟩:=qb h2;cases h2;obtain⟨us,k1,k2⟩:=yem (rs:=rs) (cs:=cs') R hcs hps;have one:∃u,(z9o a r).run P w=.ok u w/\Rd w Fr β p u:=by
   cases r with
   |tmp t=>
    simp only[zv0,war]at hc;subst hc;simp only[resV,war]at hp;subst hp;exact⟨_,rfl,R.sl t⟩
   |cell x ty=>
    simp only[zv0]at hc;obtain⟨g,hg,hc⟩:=qb hc;obtain⟨n,hn,hc⟩:=qb hc;split at hc
    ·rename_i hgn
     cases hc;have hx:=R.sl x;simp only[resV]at hp;split at hp
     ·rename_i b o e1
      rw[e1]at hx;simp only[Rd]at hx;obtain⟨gb,hgb,hx⟩:=hx;split at hp
      ·rename_i cells hcells
       split at hp
       ·rename_i hle
        obtain⟨hcells,_,g',vs,e,b1,b2,b3,b4,b5,_⟩:=R.bx.cells hcells;rw[hgb]at b1;cases b1;have hvl:=b3.length;have hcell:∀j v,((vs.drop o).take n)[j]?=some v->w.cell? ⟨gb,o+j,none⟩=some v:=fun j v hj=>by
         rw[List.getElem?_take]at hj;split at hj
         ·rw[wal]at hj
          rw[cell_of_row _ _ _ _ _ _ b2];simpa using hj
         ·cases hj
        have hrun:=zlh hg hn (by rw[wa2,wbc];omega) hcell hgn;refine⟨if g then .agg ((vs.drop o).take n).toArray else((vs.drop o).take n).getD 0 undef,?_,?_⟩
        ·simp only[z9o,hx,asAddr,wav,wbg,waw];exact hrun
        ·cases g with
         |true=>
          simp only[if_true,war]at hp⊢;subst hp;simp only[Rd];exact⟨_,rfl,(b3.drop o).take n,(b4.drop o).take n⟩
         |false=>
          simp only[wbf,if_false]at hp⊢;have hn1:n=1:=hgn.resolve_left (by simp);obtain⟨v,q1,q2⟩:=z1d (b3.drop o) hn1 (p:=p) (by rw[wal,wa6];exact hp);rw[q1];exact q2
       ·cases hp
      ·cases hp
     ·cases hp
    ·cases hc
  obtain⟨u,q1,q2⟩:=one;refine⟨u::us,?_,by simp only[Rds];exact⟨u,us,rfl,q2,k2⟩⟩;rw[wa8];simp only[wav,q1,waw,k1];rfl
theorem yww{vs:List PV}{us:List Value}(h:Rds w Fr β vs us):Rd w Fr β (zef vs) (if h:us.toArray.size=1 then us.toArray[0]else .tuple us.toArray):=by
 match vs,us,h with
 |[],us,h=>simp only[Rds]at h;subst h;simp[zef,Rd,Rds]
 |[p],us,h=>
  simp only[Rds]at h;obtain⟨v,r,rfl,h1,rfl⟩:=h;simpa[zef]using h1
 |p::q::r,us,h=>
  have hl:=h.length;have hne:¬us.toArray.size=1:=by simp[hl]
  rw[dif_neg hne];simp only[zef,Rd];exact⟨us,rfl,h⟩
theorem yen{nb:Nat}:∀(vs:List PV),lows nb vs=true->(zef vs).low nb=true
 |[],_=>rfl
 |[v],h=>by simpa[lows,zef]using h
 |v::u::r,h=>h
theorem Rel.noFrame{bx:zae}{oc:List Loc}(R:Rel P T base M w0 F0 nt (zli bx oc) a w Fr β)(h:∀L∈oc,zad L=true):Rel P [] base M w0 F0 0 (zli bx oc) act0 w Fr β:=by
 have hv:∀L∈oc,zay act0 w β L=zay a w β L:=fun L hL=>(zcg (h L hL)).symm
 refine⟨fun i=>by simp[zli,look,Rd],rfl,zkp,R.bx,R.nd,fun L hL=>?_,fun L hL L' hL' hne v v' g k1 k2=>?_,fun L hL v g k1=>?_,(fun q hq=>by cases hq),fun g hg=>R.may g (hg.imp id ?_),R.old,R.ge,R.os,R.tape,R.output⟩
 ·rw[hv L hL];exact R.own L hL
 ·rw[hv L hL]at k1;rw[hv L' hL']at k2
  exact R.sep L hL L' hL' hne v v' g k1 k2
 ·rw[hv L hL]at k1;exact R.out L hL v g k1
 ·rintro⟨L,hL,v,k1,k2⟩
  exact⟨L,hL,v,by rw[<-hv L hL];exact k1,k2⟩
theorem yeo{bx bx':zae}{oc oc':List Loc}{vs2:List PV}{v0:Value}{os:Bool}(hbl:bx.length=β.length)(R':Rel P [] w.heap.size (zgy w β oc) w Fr nt st a' w' Fr' β')(hl':Le w Fr β w' Fr' β')(hrdv:Rd w' Fr' β' (zef vs2) v0)
 (hown0:os=true->∃s,Loc.slot s∈st.ow/\a'.tmps.getD s undef=v0/\look st.sl s=zef vs2) (hbx:trim bx.length vs2 st.bx=bx') (hoc:zdj bx'.length st.ow=oc'):∃β'',Post P w Fr β oc vs2 os bx' oc' v0 w' Fr' β'':=by
 have hocm:∀L,L∈oc'->L∈st.ow/\zad L=true/\∀b j,L=.cell b j->b<bx'.length:=fun L hL=>by
  rw[<-hoc]at hL;unfold zdj at hL;obtain⟨h1,h2⟩:=wbw.1 hL;cases L with
  |slot i=>cases h2
  |cell b j=>exact⟨h1,rfl,fun b' j' e=>by cases e;simpa using h2⟩
 have hown:∀β'':List Nat,(∀g∈β'',g∈β')->(∀L∈oc',∀u,zay act0 w' β'' L=some u->zay a' w' β' L=some u)->os=true->OwnV P w' Fr' (zef vs2) v0/\∀g,v0.ownBlock=some g->(w.heap.size<=g\/zgy w β oc g)/\g∉β''/\∀L∈oc',∀u,zay act0 w' β'' L=some u->u.ownBlock≠some g:=fun β'' hsub hval ho=>by
  obtain⟨s,hin,hus,hlk⟩:=hown0 ho;obtain⟨u',p,k1,k2,k3⟩:=R'.own _ hin;simp only[zay,war]at k1;simp only[pvAt,war]at k2;rw[hus]at k1;rw[hlk]at k2;subst k1;subst k2;have hva:zay a' w' β' (.slot s)=some v0:=by simp only[zay,hus]
  refine⟨k3,fun g hg=>⟨R'.may g (.inr ⟨_,hin,v0,hva,hg⟩),fun hm=>R'.out _ hin v0 g hva hg (hsub g hm),fun L hL x hx hxg=>?_⟩⟩;exact R'.sep _ hin L (hocm L hL).1 (fun e=>by have:=(hocm L hL).2.1;rw[<-e]at this;cases this) v0 x g hva (hval L hL x hx) hg hxg
 by_cases h1:bx'=st.bx
 ·have Rc:Rel P [] w.heap.size (zgy w β oc) w Fr nt (zli bx' oc') a' w' Fr' β':=R'.cut0 (fun i=>.inl rfl) h1 (fun L hL=>⟨(hocm L hL).1,fun i e=>by have:=(hocm L hL).2.1;rw[e]at this;cases this⟩) rfl
  exact⟨β',⟨hrdv,Rc.noFrame (fun L hL=>(hocm L hL).2.1),hl',fun L hL=>(hocm L hL).2.1,hown β' (fun _ h=>h) fun L hL u hu=>by rw[zcg (hocm L hL).2.1];exact hu⟩⟩
 ·have h2:lows bx.length vs2=true/\(st.bx.take bx.length).all (fun q=>lows bx.length q.2)=true/\bx'=st.bx.take bx.length:=by
   rw[<-hbx]at h1⊢;unfold trim at h1⊢;split at h1
   ·exact absurd rfl h1
   ·rename_i hne
    split at h1
    ·rename_i hc
     rw[if_neg hne,if_pos hc];simp only[wb1]at hc;exact⟨hc.1,hc.2,rfl⟩
    ·exact absurd rfl h1
  obtain⟨k1,k2,k3⟩:=h2;have Rc:Rel P [] w.heap.size (zgy w β oc) w Fr nt (zli bx' oc') a' w' Fr' (β'.take bx.length):=R'.cut (nb:=bx.length) (fun i=>.inl rfl) k3 (fun cs hcs=>wa9.1 k2 cs hcs) (fun L hL=>⟨(hocm L hL).1,(fun i e=>by have:=(hocm L hL).2.1;rw[e]at this;cases this),fun b j e=>by
   have:=(hocm L hL).2.2 b j e;rw[k3,wa2]at this;omega⟩) rfl
  refine⟨β'.take bx.length,⟨z9m _ _ (yen vs2 k1) hrdv,Rc.noFrame (fun L hL=>(hocm L hL).2.1),⟨hl'.size,hl'.fr,hl'.cell,fun i g hg=>?_,hl'.lp⟩,fun L hL=>(hocm L hL).2.1,hown _ (fun g hg=>waj hg) fun L hL u hu=>?_⟩⟩
  ·have hlt:=(qg hg).1
   rw[wbz (by omega)];exact hl'.box i g hg
  ·rw[zcg (hocm L hL).2.1]
   cases L with
   |slot i=>exact hu
   |cell b j=>
    simp only[zay]at hu⊢;have:=(hocm _ hL).2.2 b j rfl;rw[k3,wa2]at this;rwa[wbz (by omega)]at hu
theorem zsh{S:S0}{fn:Func}{Rp:Ending->World->Prop}{u:FrameMode}(hu:u≠.run):∀(Ds:List Nat)(a:Act)(w:World),a.defers=Ds.map mark++S.T->Rl P S st a w->(∀a' w',Rl P S st a' w'->a'.tmps=a.tmps->a'.defers=S.T->LeavesInM Fence.wide 0 P fn a.tmps Rp S.T u w')->
 LeavesInM Fence.wide 0 P fn a.tmps Rp (Ds.map mark++S.T) u w
 |[],a,w,ha,hr,h=>h a w hr rfl ha
 |D::Ds,a,w,ha,hr,h=>by
  obtain⟨Fr,β,R,hl⟩:=hr;obtain⟨k1,R',hl'⟩:=R.takeMark ha;rw[wax,wai];unfold LeavesInM;refine⟨hu,.inl ⟨D,_,rfl,run_takeDeferred k1,?_⟩⟩;exact zsh hu Ds {a with defers:=Ds.map mark++S.T} _ rfl ⟨Fr,β,R',hl.trans hl'⟩ fun a' w' h1 h2 h3=>h a' w' h1 h2 h3
theorem zlm{S:S0}{fn:Func}{Rp:Ending->World->Prop}(hT:S.T=[])(ds:List Deferred)(a:Act)(w:World)(ha:a.defers=ds)(hr:Rl P S st a w)(h:∀a' w',Rl P S st a' w'->a'.tmps=a.tmps->∃v,(results fn a'.tmps).run P w'=.ok v w'/\Rp (.returned v) w'):
 LeavesInM Fence.wide 0 P fn a.tmps Rp ds .returning w:=by
 have hr0:=hr;obtain⟨Fr,β,R,hl⟩:=hr0;obtain⟨Ds,d1,d2,d3⟩:=R.df;rw[<-ha,d2];refine zsh (by simp) Ds a w d2 hr fun a' w' h1 h2 h3=>?_
 rw[hT];unfold LeavesInM LeavesIn;obtain⟨v,q1,q2⟩:=h a' w' h1 h2;exact⟨v,by rw[<-h2];exact q1,q2⟩
theorem z9p{w:World}{Fr:Nat->Nat}{β:List Nat}:∀(ps:List Nat)(az:List PV)(us:List Value)(sl:List (Nat×PV))(tmps:Array Value),(∀p∈ps,p<tmps.size)->Rds w Fr β az us->(∀i,Rd w Fr β (look sl i) (tmps.getD i undef))->
 ((ps.zip us).foldl (fun(t:Array Value)(q:Nat×Value)=>t.setIfInBounds q.1 q.2) tmps).size=tmps.size/\∀i,Rd w Fr β (look ((ps.zip az).foldl (fun l p=>p::l) sl) i) (((ps.zip us).foldl (fun(t:Array Value)(q:Nat×Value)=>t.setIfInBounds q.1 q.2) tmps).getD i undef)
 |[],az,us,sl,tmps,_,_,h=>⟨rfl,h⟩
 |p::ps,[],us,sl,tmps,_,hr,h=>by simp only[Rds]at hr;subst hr;exact⟨rfl,h⟩
 |p::ps,a::az,us,sl,tmps,hp,hr,h=>by
  simp only[Rds]at hr;obtain⟨u,us,rfl,h1,h2⟩:=hr;simp only[List.zip_cons_cons,waz];have hpt:=hp p (by simp);obtain⟨k1,k2⟩:=z9p ps az us ((p,a)::sl) (tmps.setIfInBounds p u) (fun q hq=>by simp;exact hp q (by simp[hq])) h2 fun i=>by
   rw[za4,wap,Array.getElem?_setIfInBounds];by_cases e:p=i
   ·subst e;simp[hpt,h1]
   ·simp only[e,if_false]
    rw[<-wap];exact h i
  exact⟨by rw[k1];simp,k2⟩
theorem yep:∀(c:Code)(k:Nat){g:Operand}{ps:Array Tmp}{az b:Code},(zaw c)[k]?=some (g,ps,az,b)->∀(j:Nat)(q:Operand×Array Tmp×Code×Code),(zaw az++zaw b)[j]?=some q->(zaw c)[k+1+j]?=some q:=by
 intro c
 induction c with
 |seq a b iha ihb=>
  intro k g ps az bb h j q hj;simp only[zaw]at h⊢;by_cases hk:k<(zaw a).length
  ·rw[waa hk]at h
   have:=iha k h j q hj;rw[waa (qg this).1];exact this
  ·rw[wbr (by omega)]at h
   rw[wbr (by omega)];have:=ihb _ h j q hj;rwa[show k+1+j - (zaw a).length=k - (zaw a).length+1+j by omega]
 |cond x a b iha ihb=>
  intro k g ps az bb h j q hj;simp only[zaw]at h⊢;by_cases hk:k<(zaw a).length
  ·rw[waa hk]at h
   have:=iha k h j q hj;rw[waa (qg this).1];exact this
  ·rw[wbr (by omega)]at h
   rw[wbr (by omega)];have:=ihb _ h j q hj;rwa[show k+1+j - (zaw a).length=k - (zaw a).length+1+j by omega]
 |block id b ih=>intro k g ps az bb h;exact ih k h
 |loop b ih=>intro k g ps az bb h;exact ih k h
 |scope b ih=>intro k g ps az bb h;exact ih k h
 |rangeFunc g' ps' az' b' iha ihb=>
  intro k g ps az bb h j q hj;simp only[zaw]at h⊢;cases k with
  |zero=>
   simp only[wbl,war,Prod.mk.injEq]at h;obtain⟨rfl,rfl,rfl,rfl⟩:=h;rw[show 0+1+j=j+1 by omega,wbk];exact hj
  |succ k=>
   rw[wbk]at h;rw[show k+1+1+j=(k+1+j)+1 by omega,wbk];by_cases hk:k<(zaw az').length
   ·rw[waa hk]at h
    have:=iha k h j q hj;rw[waa (qg this).1];exact this
   ·rw[wbr (by omega)]at h
    rw[wbr (by omega)];have:=ihb _ h j q hj;rwa[show k+1+j - (zaw az').length=k - (zaw az').length+1+j by omega]
 |_=>intro k g ps az bb h;simp[zaw]at h
theorem ykm(hm:P.follows .mixedOrders=true){code:FuncId->Option CFun}(hcode:∀f c,code f=some c->∃lv,z36 P lv f=some c){n:Nat}(hcf:zcj P Γ cf){args:List PV}{bx bx':zae}{oc oc':List Loc}{vs':List PV}{os:Bool}(h:zvl cf code n args bx oc=some (vs',os,bx',oc'))
 {w:World} {Fr:Nat->Nat} {β:List Nat} {vs:List Value} (hp:Pre P Γ w Fr β args vs bx oc):Enters P yldF vs w fun e w'=>∃v Fr' β',e=.returned v/\Post P w Fr β oc vs' os bx' oc' v w' Fr' β':=by
 unfold zvl at h;split at h
 case h_2=>cases h
 rename_i b az;split at h
 case h_2=>cases h
 rename_i e0 f k live snap hbx;obtain⟨c,hc,hA⟩:=qb h;clear h;obtain⟨q,hq,hB⟩:=qb hA;clear hA;split at hB
 case isFalse=>cases hB
 rename_i hlen;obtain⟨⟨o1,s1⟩,hev,h⟩:=qb hB;clear hB;dsimp only at h;have hargs:=hp.args;simp only[Rds]at hargs;obtain⟨v0,us,rfl,hy,hus⟩:=hargs;simp only[Rd]at hy;obtain⟨g,hg,rfl⟩:=hy;obtain⟨g0,b1,hF,hat⟩:=hp.rel.bx.2 b _ hbx;rw[hg]at b1;cases b1;have hrec:LpR P w Fr β f k .ready live snap g:=by
  rcases hat with⟨vs,e,_,h2,_⟩|⟨_,_,_,_,_,he,h1⟩
  ·simp only[Rds]at h2;obtain⟨_,_,_,h2,_⟩:=h2;simp only[Rd]at h2
  ·cases he;exact h1
 obtain⟨r,q1,⟨fn,hfn,htm⟩,⟨x,hra⟩,⟨hst,hpe⟩,hsn⟩:=hrec;have hgl:=(wan.1 q1).1;obtain⟨lv,hco⟩:=hcode f c hc;unfold z36 at hco;rw[hfn]at hco;dsimp only at hco;split at hco
 case h_2=>cases hco
 rename_i body hbody;split at hco
 case isFalse=>cases hco
 obtain⟨⟨cc,lv'⟩,hcc,hco⟩:=qb hco;obtain⟨rg,hrg,hco⟩:=qb hco;obtain⟨rs,hrs,rfl⟩:=qm hco;obtain⟨qq,lvk,k1,k2⟩:=zzb hrg k q hq;rw[wbx]at k2;have hra':rangeAt P f k=some qq:=by unfold rangeAt;rw[hfn];simp only[wat,hbody];exact k1
 rw[hra]at hra';cases hra';unfold yq9 at k2;split at k2
 case isFalse=>cases k2
 rename_i hps;obtain⟨⟨ac,lv2⟩,hac,k2⟩:=qb k2;obtain⟨⟨bc,lv3⟩,hbc,k2⟩:=qm k2;cases k2;obtain⟨ps,e1⟩:∃ps,ps=r.params:=⟨_,rfl⟩;dsimp only at hlen hev hps hac hbc;rw[<-e1]at hlen hev hps;have hS:Good Γ ⟨w.heap.size,zgy w β oc,w,Fr,fn.ntmps,w,Fr,β,[]⟩:=⟨hp.g,fun g hg=>⟨Γ.lt w hp.g g hg,hp.dis g hg⟩⟩;have hpall:∀p∈ps.toList,p<fn.ntmps:=fun p hp=>by simpa using List.all_eq_true.1 hps p hp
 have hfold:((r.params.zip us.toArray).foldl (fun tmps(t,a)=>tmps.setIfInBounds t a) r.tmps)=(ps.toList.zip us).foldl (fun(t:Array Value)(q:Nat×Value)=>t.setIfInBounds q.1 q.2) r.tmps:=by
  rw[<-e1,<-Array.foldl_toList,Array.toList_zip]
 obtain⟨hsz,hsl⟩:=z9p ps.toList az us (live.zip snap) r.tmps (by rw[htm];exact hpall) hus hsn;obtain⟨a0,ha0⟩:∃a0:Act,a0={tmps:=((ps.toList.zip us).foldl (fun(t:Array Value)(q:Nat×Value)=>t.setIfInBounds q.1 q.2) r.tmps),defers:=[]}:=⟨_,rfl⟩;have hcl:∀L∈oc,∀w β,zay a0 w β L=zay act0 w β L:=fun L hL w β=>zcg (hp.cells L hL)
 have R0:Rel P [] w.heap.size (zgy w β oc) w Fr fn.ntmps {sl:=(ps.toList.zip az).foldl (fun l p=>p::l) (live.zip snap),ow:=oc,al:=[],bx:=bx} a0 w Fr β:=by
  refine⟨fun i=>by subst ha0;exact hsl i,by subst ha0;exact hsz.trans htm,by subst ha0;exact zkp,hp.rel.bx,hp.rel.nd,fun L hL=>?_,fun L hL L' hL' hne v v' g hv hv'=>?_,fun L hL v g hv=>?_,(fun q hq=>by cases hq),fun g hg=>.inr ?_,hp.rel.old,wab _,rfl,rfl,rfl⟩
  ·obtain⟨v,p,k1,k2,k3⟩:=hp.rel.own L hL
   exact⟨v,p,by rw[hcl L hL];exact k1,by rw[zqu (hp.cells L hL) (oc:=oc)];exact k2,k3⟩
  ·rw[hcl L hL]at hv;rw[hcl L' hL']at hv'
   exact hp.rel.sep L hL L' hL' hne v v' g hv hv'
  ·rw[hcl L hL]at hv;exact hp.rel.out L hL v g hv
  ·refine hg.imp id ?_
   rintro⟨L,hL,v,hv,hg⟩;exact⟨L,hL,v,by rw[<-hcl L hL];exact hv,hg⟩
 unfold Enters;rw[if_pos rfl];refine⟨g,us,r,rfl,q1,?_,?_⟩
 ·rw[<-e1,hus.length,hlen];simp
 rw[hfold];refine roundIn_of_wpIn trivial ?_;rw[<-ha0];have hrat:∀j qq,(zaw r.assign++zaw r.body)[j]?=some qq->rangeAt P f (k+1+j)=some qq:=fun j qq hj=>by
  unfold rangeAt;rw[hfn];simp only[wat,hbody];exact yep _ _ k1 j qq hj
 refine zii (r:=some g) hm hcf hS (f:=f) ⟨fn,hfn,rfl⟩ (fun l e=>by cases e;exact⟨r,q1⟩) r.assign (k+1) lvk ac lv2 hac (fun j qq hj=>hrat j qq (by rw[waa (qg hj).1];exact hj)) _ s1 o1 a0 w _ hev rfl ⟨Fr,β,R0,Le.refl _ _ _⟩ fun a1 w1 hr1=>?_
 obtain⟨Fr1,β1,Rx,hl1⟩:=hr1;have hb1:β1[b]?=some g:=hl1.box _ _ hg;dsimp only at h;split at h
 case h_2=>cases h
 rename_i e1' f1 k1' live1 snap1 hbx1;obtain⟨⟨o,st⟩,hev2,h⟩:=qb h;dsimp only at h hev2;obtain⟨g0,b1,hF1,hat1⟩:=Rx.bx.2 b _ hbx1;rw[hb1]at b1;cases b1;have hrec1:LpR P w1 Fr1 β1 f1 k1' .ready live1 snap1 g:=by
  rcases hat1 with⟨vs,e,_,h2,_⟩|⟨_,_,_,_,_,he,h1⟩
  ·simp only[Rds]at h2;obtain⟨_,_,_,h2,_⟩:=h2;simp only[Rd]at h2
  ·cases he;exact h1
 obtain⟨r1,u1,u2,u3,⟨u4,u5⟩,u6⟩:=hrec1;obtain⟨R1,hl2⟩:=Rx.setLp (r':={r1 with state:=.busy}) (f':=f1) (k':=k1') (s':=.busy) (live':=live1) (snap':=snap1) hbx1 hb1 fun hl1=>⟨_,World.putObj_heap_same (wan.1 u1).1,u2,u3,rfl,fun i=>(u6 i).mono hl1⟩
 refine⟨_,run_beginRound u1 u4,?_⟩;have hal1:=zqz _ _ _ _ hev rfl;refine zii (r:=some g) hm hcf hS (f:=f) ⟨fn,hfn,rfl⟩ (fun l e=>by cases e;exact⟨r,q1⟩) r.body (k+1+(zaw r.assign).length) lv2 bc lv3 hbc (fun j qq hj=>by
  have:=hrat ((zaw r.assign).length+j) qq (by rw[wbr (by omega)];simpa using hj);rwa[<-wam]at this) _ st o a1 _ _ hev2 hal1 ⟨Fr1,β1,R1,hl1.trans hl2⟩ fun a' w' hr'=>?_
 obtain⟨Fr',β',R',hl'⟩:=hr';have hb':β'[b]?=some g:=hl'.box _ _ hg;split at h
 case h_2=>cases h
 rename_i e0' f' k' live' snap' hbx';obtain⟨g0,b1,hF',hat'⟩:=R'.bx.2 b _ hbx';rw[hb']at b1;cases b1;have hrec':LpR P w' Fr' β' f' k' .busy live' snap' g:=by
  rcases hat' with⟨vs,e,_,h2,_⟩|⟨_,_,_,_,_,he,h1⟩
  ·simp only[Rds]at h2;obtain⟨_,_,_,h2,_⟩:=h2;simp only[Rd]at h2
  ·cases he;exact h1
 obtain⟨r',p1,p2,p3,p4,p5⟩:=hrec';have hgl':=(wan.1 p1).1
 have fin:∀(s:LpS)(jump:Option Code),s.of {r' with state:=if jump.isNone then .ready else .done,pending:=jump}->(trim bx.length [.flat (.bool jump.isNone)] (st.bx.set b (0,[.lp f' k' s live' snap'])))=bx'->vs'=[.flat (.bool jump.isNone)]->os=false->zdj bx'.length st.ow=oc'->
  ∃v w'',(Instr.endRound g jump).run P w'=.ok v w''/\∃v0 Fr' β',Ending.returned v=.returned v0/\Post P w Fr β oc vs' os bx' oc' v0 w'' Fr' β':=fun s jump hs h1 h2 h3 h4=>by
  subst h2;subst h3;obtain⟨R2,hl2⟩:=R'.setLp (r':={r' with state:=if jump.isNone then .ready else .done,pending:=jump}) (f':=f') (k':=k') (s':=s) (live':=live') (snap':=snap') hbx' hb' fun hl2=>⟨_,World.putObj_heap_same hgl',p2,p3,hs,fun i=>(p5 i).mono hl2⟩
  refine⟨_,_,run_endRound jump p1,.bool jump.isNone,Fr',?_⟩;obtain⟨β'',hpost⟩:=yeo (v0:=.bool jump.isNone) (vs2:=[.flat (.bool jump.isNone)]) (os:=false) hp.rel.bx.1 R2 (hl'.trans hl2) (by simp[zef,Rd,zdi]) (fun h=>by cases h) h1 h4;exact⟨β'',rfl,hpost⟩
 cases o with
 |normal=>
  cases h;exact fin .ready none ⟨rfl,rfl⟩ rfl rfl rfl rfl
 |exit i=>
  cases h;exact fin (.done (.exit i)) (some (.exit i)) ⟨rfl,rfl⟩ rfl rfl rfl rfl
 |ret=>
  cases h;exact fin (.done .ret) (some .ret) ⟨rfl,rfl⟩ rfl rfl rfl rfl
theorem Rel.bare(R:Rel P T base M w0 F0 nt st a w Fr β):Rel P [] base M w0 F0 nt st {a with defers:=[]} w Fr β:=by
 have hv:∀L,zay {a with defers:=[]} w β L=zay a w β L:=fun L=>by cases L<;>rfl
 exact⟨R.sl,R.nt,zkp,R.bx,R.nd,fun L hL=>by rw[hv];exact R.own L hL,fun L hL L' hL' hne v v' g=>by rw[hv,hv];exact R.sep L hL L' hL' hne v v' g,fun L hL v g=>by rw[hv];exact R.out L hL v g,fun q hq=>by rw[hv];exact R.al q hq,fun g hg=>R.may g (hg.imp id fun⟨L,hL,v,k1,k2⟩=>⟨L,hL,v,by rw[<-hv];exact k1,k2⟩),R.old,R.ge,R.os,R.tape,R.output⟩
theorem z9q{fn:Func}{rs:List (Sum Nat (Nat×Bool×Nat))}(hrs:fn.results.toList.mapM (zv0 P)=some rs){bx bx':zae}{oc oc':List Loc}{vs':List PV}{os:Bool}(hbl:bx.length=β.length)
 (h:(rs.mapM (resV st)).map (fun vs=>(vs,zti rs st.ow,trim bx.length vs st.bx,zdj (trim bx.length vs st.bx).length st.ow))=some (vs',os,bx',oc')) (a':Act) (w':World) (hr':Rl P ⟨w.heap.size,zgy w β oc,w,Fr,nt,w,Fr,β,T⟩ st a' w'):
 ∃v,(results fn a'.tmps).run P w'=.ok v w'/\∃v0 Fr' β',Ending.returned v=.returned v0/\Post P w Fr β oc vs' os bx' oc' v0 w' Fr' β':=by
 obtain⟨Fr',β',R0',hl'⟩:=hr';have R':=R0'.bare;obtain⟨a2,ha2⟩:∃a2:Act,a2={a' with defers:=[]}:=⟨_,rfl⟩;have et:a'.tmps=a2.tmps:=by rw[ha2]
 rw[<-ha2]at R';rw[et];clear R0' ha2 et;obtain⟨vs2,hvs,h⟩:=qm h;simp only[Prod.mk.injEq]at h;obtain⟨rfl,hos,hbx,hoc⟩:=h;obtain⟨us,hrun,hrd⟩:=yem (rs:=fn.results.toList) (cs:=rs) R' hrs hvs;obtain⟨v0,hv0⟩:∃v0,(if h:us.toArray.size=1 then us.toArray[0]else .tuple us.toArray)=v0:=⟨_,rfl⟩;have hres:(results fn a2.tmps).run P w'=.ok v0 w':=by
  rw[yb5,Array.mapM_eq_mapM_toList];simp only[wav,Sem.run_map];rw[hrun,<-hv0];rfl
 have hrdv:Rd w' Fr' β' (zef vs2) v0:=by rw[<-hv0];exact yww hrd
 refine⟨v0,hres,v0,Fr',?_⟩;have hown0:os=true->∃s,Loc.slot s∈st.ow/\a2.tmps.getD s undef=v0/\look st.sl s=zef vs2:=fun ho=>by
  have hsome:∃s,rs=[.inl s]/\Loc.slot s∈st.ow:=by
   rw[<-hos]at ho;rcases rs with _|⟨r,_|⟨r2,rs3⟩⟩
   ·cases ho
   ·cases r with
    |inl s=>exact⟨s,rfl,by simpa[zti]using ho⟩
    |inr x=>cases ho
   ·cases r<;>cases ho
  obtain⟨s,hrse,hin⟩:=hsome;subst hrse;simp only[wa8,List.mapM_nil,resV]at hvs;cases hvs;refine⟨s,hin,?_,rfl⟩;have h9:fn.results.toList.mapM (zv0 P)=some [.inl s]:=hrs;cases hrl:fn.results.toList with
  |nil=>rw[hrl]at h9;simp at h9
  |cons x xs=>
   rw[hrl,wa8]at h9;obtain⟨c,hc,h9⟩:=qb h9;obtain⟨cs',hcs,h9⟩:=qb h9;cases h9;have hxt:x=.tmp s:=by
    cases x with
    |tmp t=>simp only[zv0,war,Sum.inl.injEq]at hc;rw[hc]
    |cell x' ty=>
     simp only[zv0]at hc;obtain⟨_,_,hc⟩:=qb hc;obtain⟨_,_,hc⟩:=qb hc;split at hc<;>cases hc
   have hxs:xs=[]:=by
    cases xs with
    |nil=>rfl
    |cons y ys=>
     rw[wa8]at hcs;obtain⟨c,hc,hcs⟩:=qb hcs;obtain⟨cs',hcs',hcs⟩:=qb hcs;cases hcs
   subst hxt;subst hxs;rw[hrl]at hrun;rw[wa8]at hrun;simp only[wav,wbg,waw,List.mapM_nil]at hrun;cases hrun;rw[<-hv0];simp
 obtain⟨β'',hpost⟩:=yeo (os:=os) (bx':=bx') (oc':=oc') hbl R' hl' hrdv hown0 hbx (by rw[<-hoc,<-hbx]);exact⟨β'',rfl,hpost⟩
theorem z1m{Γ:Glob}{args:List PV}{vs:List Value}{bx:zae}{oc:List Loc}(hp:Pre P Γ w Fr β args vs bx oc)(hlen:args.length<=nt):
 Rel P [] w.heap.size (zgy w β oc) w Fr nt {sl:=zik 0 args,ow:=oc,al:=[],bx:=bx} {tmps:=vs.toArray++Array.replicate (nt - vs.toArray.size) undef,defers:=[]} w Fr β:=by
 have hvl:=hp.args.length;obtain⟨a0,ha0⟩:∃a0:Act,a0={tmps:=vs.toArray++Array.replicate (nt - vs.toArray.size) undef,defers:=[]}:=⟨_,rfl⟩;have hget:∀i,a0.tmps.getD i undef=vs.getD i undef:=fun i=>by
  subst ha0;rw[wap,wca];by_cases hi:i<vs.length
  ·rw[Array.getElem?_append_left (by simpa using hi)];simp
  ·rw[Array.getElem?_append_right (by simpa using hi),List.getElem?_eq_none (by omega),Array.getElem?_replicate]
   split<;>rfl
 rw[<-ha0]
 ·skip
  have hcl:∀L∈oc,zay a0 w β L=zay act0 w β L:=fun L hL=>zcg (hp.cells L hL)
  refine⟨fun i=>?_,by subst ha0;simp;omega,by subst ha0;exact zkp,hp.rel.bx,hp.rel.nd,fun L hL=>?_,fun L hL L' hL' hne v v' g hv hv'=>?_,fun L hL v g hv=>?_,(fun q hq=>by cases hq),fun g hg=>.inr ?_,hp.rel.old,wab _,rfl,rfl,rfl⟩
  ·rw[z4a,if_pos (wa7 _),wc2,hget]
   by_cases hi:i<args.length
   ·obtain⟨v,h1,h2⟩:=hp.args.get i _ (qe hi)
    rw[wca,qe hi,wca,h1];exact h2
   ·rw[wca,wb8 (by omega)];simp[Rd]
  ·obtain⟨v,p,k1,k2,k3⟩:=hp.rel.own L hL
   exact⟨v,p,by rw[hcl L hL];exact k1,by rw[zqu (hp.cells L hL) (oc:=oc)];exact k2,k3⟩
  ·rw[hcl L hL]at hv;rw[hcl L' hL']at hv'
   exact hp.rel.sep L hL L' hL' hne v v' g hv hv'
  ·rw[hcl L hL]at hv;exact hp.rel.out L hL v g hv
  ·refine hg.imp id ?_
   rintro⟨L,hL,v,hv,hg⟩;exact⟨L,hL,v,by rw[<-hcl L hL];exact hv,hg⟩
theorem ywx(hm:P.follows .mixedOrders=true)(hyn:P.funcs[yldF]?=none){code:FuncId->Option CFun}{lib:Callee}(hcode:∀f c,code f=some c->∃lv,z36 P lv f=some c)(hlib:zcj P Γ lib):∀n,zcj P Γ (evF code lib n):=by
 intro n
 induction n with
 |zero=>intro f args bx oc vs' os bx' oc' h;simp[evF]at h
 |succ n ih=>
  intro f args bx oc vs' os bx' oc' h;simp only[evF]at h;cases hcf:code f with
  |none=>
   rw[hcf]at h;dsimp only at h;split at h
   ·rename_i hf
    subst hf;exact fun w Fr β vs hp=>ykm hm hcode ih h hp
   ·exact hlib f args bx oc vs' os bx' oc' h
  |some c=>
   rw[hcf]at h;dsimp only at h;split at h
   case isFalse=>cases h
   rename_i hlen;obtain⟨⟨o,st⟩,hev,h⟩:=qb h;obtain⟨lv,hco⟩:=hcode f c hcf;unfold z36 at hco;split at hco
   case h_2=>cases hco
   rename_i fn hfn;split at hco
   case h_2=>cases hco
   rename_i body hbody;split at hco
   case isFalse=>cases hco
   rename_i hname;obtain⟨⟨cc,lv'⟩,hcc,hco⟩:=qb hco;obtain⟨rg,hrg,hco⟩:=qb hco;obtain⟨rs,hrs,rfl⟩:=qm hco;dsimp only at h hev hlen;intro w Fr β vs hp;refine enters_of (by unfold zgz;rw[hfn];simp only[hname,hbody,wc3,wc4]) (fun e=>by rw[e,hyn]at hfn;cases hfn) ?_;have hvl:=hp.args.length;have hS:Good Γ ⟨w.heap.size,zgy w β oc,w,Fr,fn.ntmps,w,Fr,β,[]⟩:=⟨hp.g,fun g hg=>⟨Γ.lt w hp.g g hg,hp.dis g hg⟩⟩;have R0:=z1m (nt:=fn.ntmps) hp hlen;refine callsIn_wide.1 (callsIn_of_wp_marks (n:=0) hfn hbody trivial ?_);refine zii (r:=none) hm ih hS (f:=f) ⟨fn,hfn,rfl⟩ (fun l e=>by cases e) body 0 lv.main cc lv' hcc ?_ _ st o _ w _ hev rfl ⟨Fr,β,R0,Le.refl _ _ _⟩ fun a' w' hr'=>?_
   ·intro j q hj
    unfold rangeAt;rw[hfn];simp only[wat,hbody,wbx];exact hj
   cases o with
   |exit id=>cases h
   |normal=>exact zlm rfl _ a' w' rfl hr' fun a2 w2 hr2 _=>z9q hrs hp.rel.bx.1 h a2 w2 hr2
   |ret=>exact zlm rfl _ a' w' rfl hr' fun a2 w2 hr2 _=>z9q hrs hp.rel.bx.1 h a2 w2 hr2
end
end Nun
namespace Nun
open Go
def Sub(c c':Callee):Prop:=∀f a b o r,c f a b o=some r->c' f a b o=some r
variable {c c':Callee} {st st':St}
theorem ziq(h:Sub c c'){d:Option Nat}{f:FuncId}{az:List PV}(hs:callBx c st d f az=some st'):callBx c' st d f az=some st':=by
 unfold callBx at hs⊢;obtain⟨r,h1,h2⟩:=qm hs;rw[h _ _ _ _ _ h1,wau,h2]
theorem zv2(h:Sub c c'){d:Option Nat}{f:FuncId}{az:List PV}(hs:callSt c st d f az=some st'):callSt c' st d f az=some st':=by
 unfold callSt at hs⊢;split at hs
 ·rename_i hn
  rw[if_pos hn];obtain⟨r,h1,h2⟩:=qb hs;rw[h _ _ _ _ _ h1,wat];obtain⟨vs,os,bx,oc⟩:=r;dsimp only at h2⊢;split at h2
  ·rename_i hv;rw[if_pos hv];exact h2
  ·rename_i hv;rw[if_neg hv];exact ziq h h2
 ·rename_i hn
  rw[if_neg hn];exact ziq h hs
theorem zpb(h:Sub c c'){f:FuncId}{az:List PV}(hs:zc7 c f az=true):zc7 c' f az=true:=by
 unfold zc7 at hs⊢;simp only[wb1]at hs⊢;refine⟨hs.1,?_⟩;obtain⟨_,hs⟩:=hs;split at hs
 ·rename_i vs r e;rw[h _ _ _ _ _ e];exact hs
 ·cases hs
theorem zv3(h:Sub c c'){sl:List (Nat×PV)}{op:COp}(hs:za6 c sl op=true):za6 c' sl op=true:=by
 cases op
 case call f az=>exact zpb h hs
 case callv g az=>
  simp only[za6]at hs⊢;split at hs
  ·simp only[wb1]at hs⊢;exact⟨hs.1,zpb h hs.2⟩
  ·cases hs
 all_goals exact hs
theorem z4b(h:Sub c c'){f k:Nat}{live:List Nat}{g:PV}{r:Out×St}(hs:zhq c f k live g st=some r):zhq c' f k live g st=some r:=by
 unfold zhq at hs⊢;split at hs
 case h_2=>cases hs
 split at hs
 ·cases hs
 rename_i hne;rw[if_neg hne];obtain⟨s2,h1,h2⟩:=qb hs;rw[ziq h h1];exact h2
theorem z9r{d:Option Nat}{x:X}:zaa c st d (.asg x)=zaa c' st d (.asg x):=by
 cases x with
 |t s=>rfl
 |c v=>rfl
theorem zv4{d:Option Nat}{b:Bool}{n:Nat}{x y:X}:zaa c st d (.append b n x y)=zaa c' st d (.append b n x y):=by
 cases x<;>rfl
theorem ztk{d:Option Nat}{x y:X}:zaa c st d (.appendS x y)=zaa c' st d (.appendS x y):=by
 cases x<;>rfl
theorem zp1(h:Sub c c'){d:Option Nat}{op:COp}(hs:zaa c st d op=some st'):zaa c' st d op=some st':=by
 cases op
 case call f az=>simp only[zaa]at hs⊢;exact zv2 h hs
 case callv g az=>
  simp only[zaa]at hs⊢;split at hs
  ·split at hs
   ·cases hs
   ·rename_i hne;rw[if_neg hne];exact zv2 h hs
  ·exact ziq h hs
  ·cases hs
 case asg x=>rw[<-z9r (c:=c)];exact hs
 case append b n x y=>rw[<-zv4 (c:=c)];exact hs
 case appendS x y=>rw[<-ztk (c:=c)];exact hs
 all_goals exact hs
theorem zfy(h:Sub c c'){o:COper}(hs:stepG c st o=some st'):stepG c' st o=some st':=by
 unfold stepG at hs⊢;obtain⟨b,hb,h2⟩:=qb hs;rw[hb];cases b
 ·exact h2
 ·exact zp1 h h2
theorem zzc(h:Sub c c'){o:COper}(hs:zfg c st o=some st'):zfg c' st o=some st':=by
 unfold zfg at hs⊢;obtain⟨b,hb,h2⟩:=qb hs;rw[hb];cases b
 ·exact h2
 ·simp only[if_true,wat]at h2⊢
  split at h2
  ·rename_i hp;rw[if_pos (zv3 h hp)];exact zp1 h h2
  ·cases h2
theorem zoe(h:Sub c c'):∀{l:List COper}{st st':St},zdc c l st=some st'->zdc c' l st=some st'
 |[],_,_,hs=>hs
 |o::l,st,st',hs=>by
  simp only[zdc]at hs⊢;obtain⟨s,h1,h2⟩:=qb hs;rw[zfy h h1];exact zoe h h2
theorem zof(h:Sub c c'):∀{l:List COper}{st st':St},zij c l st=some st'->zij c' l st=some st'
 |[],_,_,hs=>hs
 |o::l,st,st',hs=>by
  simp only[zij]at hs⊢;obtain⟨s,h1,h2⟩:=qb hs;rw[zzc h h1];exact zof h h2
theorem zp2{b b':St->Option (Out×St)}(h:∀s r,b s=some r->b' s=some r){lv:List Nat}{nb:Nat}:∀{n m:Nat}{st:St}{r:Out×St},n<=m->zcn b lv nb n st=some r->zcn b' lv nb m st=some r
 |0,_,_,_,_,hs=>by cases hs
 |n+1,0,_,_,hm,_=>by omega
 |n+1,m+1,st,r,hm,hs=>by
  simp only[zcn]at hs⊢;obtain⟨⟨o,s⟩,h1,h2⟩:=qb hs;rw[h _ _ h1];cases o with
  |normal=>exact zp2 h (by omega) h2
  |exit i=>exact h2
  |ret=>exact h2
theorem z4c{α:Type}(a:Option α):same a a=a:=if_pos rfl
theorem zjm(h:Sub c c'){live:List Nat}:∀{t:BT}{st r:St},evT c live t st=some r->evT c' live t st=some r
 | .done,_,_,hs=>hs
 | .one o t,st,r,hs=>by
   simp only[evT]at hs⊢;obtain⟨s,h1,h2⟩:=qb hs;rw[zfy h h1];exact zjm h h2
 | .two o t q,st,r,hs=>by
   simp only[evT]at hs⊢;obtain⟨h1,h2⟩:=zqw hs;obtain⟨s,h3,h4⟩:=qb h1;rw[zfy h h3,wat,zjm h h4,zjm h h2,z4c]
theorem zzd(h:Sub c c'){st st':St}{o:COper}(hs:zd6 c st o=some st'):zd6 c' st o=some st':=by
 unfold zd6 at hs⊢;split at hs
 ·obtain⟨s,h1,h2⟩:=qb hs
  rw[zfy h h1];exact h2
 ·exact zfy h hs
theorem zu4(h:Sub c c'):∀{l:List COper}{st st':St},evQ c l st=some st'->evQ c' l st=some st'
 |[],_,_,hs=>hs
 |o::l,st,st',hs=>by
  simp only[evQ]at hs⊢;obtain⟨s,h1,h2⟩:=qb hs;rw[zzd h h1];exact zu4 h h2
theorem zdt(h:Sub c c'){n m:Nat}(hm:n<=m):∀{k:CCode}{st:St}{r:Out×St},evC c n k st=some r->evC c' m k st=some r
 | .skip,_,_,hs=>hs
 | .reg l p t,st,r,hs=>by
   simp only[evC]at hs⊢;obtain⟨s,h1,h2⟩:=qm hs;obtain⟨s1,h3,h4⟩:=qb h1;rw[zof h h3,wat,zoe h h4,wau,h2]
 | .regT l p t,st,r,hs=>by
   simp only[evC]at hs⊢;obtain⟨s,h1,h2⟩:=qm hs;obtain⟨s1,h3,h4⟩:=qb h1;rw[zu4 h h3,wat,zjm h h4,wau,h2]
 | .seq a b,st,r,hs=>by
   simp only[evC]at hs⊢;obtain⟨⟨o,s⟩,h1,h2⟩:=qb hs;rw[zdt h hm h1];cases o with
   |normal=>exact zdt h hm h2
   |exit i=>exact h2
   |ret=>exact h2
 | .cond x a b,st,r,hs=>by
   simp only[evC]at hs⊢;split at hs
   ·rename_i t e
    cases t
    ·exact zdt h hm hs
    ·exact zdt h hm hs
   ·cases hs
 | .block id b,st,r,hs=>by
   simp only[evC]at hs⊢;obtain⟨s,h1,h2⟩:=qm hs;rw[zdt h hm h1,wau,h2]
 | .range f k lv g,st,r,hs=>by
   simp only[evC]at hs⊢;exact z4b h hs
 | .loop lv b,st,r,hs=>by
   simp only[evC]at hs⊢;exact zp2 (fun s r hs=>zdt h hm hs) hm hs
 | .exit id lv,_,_,hs=>hs
 | .ret lv,_,_,hs=>hs
noncomputable def evB(cf:Callee)(n:Nat)(c:CFun)(args:List PV)(bx:zae)(oc:List Loc):Option Ans:=
 if args.length<=c.nt then
  (evC cf n c.body {sl:=zik 0 args,ow:=oc,al:=[],bx}).bind fun(o,st)=>
    match o with
    | .exit _=>none
    |_=>(c.res.mapM (resV st)).map fun vs=>(vs,zti c.res st.ow,trim bx.length vs st.bx,zdj (trim bx.length vs st.bx).length st.ow)
 else none
theorem z9s(h:Sub c c'){n m:Nat}(hm:n<=m){k:CFun}{args:List PV}{bx:zae}{oc:List Loc}{r:Ans}(hs:evB c n k args bx oc=some r):evB c' m k args bx oc=some r:=by
 unfold evB at hs⊢;split at hs
 case isFalse=>cases hs
 rename_i hl;rw[if_pos hl];obtain⟨p,h1,h2⟩:=qb hs;rw[zdt h hm h1];exact h2
variable {code:FuncId→Option CFun} {lib:Callee}
theorem zq0(n:Nat)(f:FuncId)(args:List PV)(bx:zae)(oc:List Loc):evF code lib (n+1) f args bx oc=match code f with|none=>if f=yldF then zvl (evF code lib n) code n args bx oc else lib f args bx oc|some k=>evB (evF code lib n) n k args bx oc:=rfl
theorem zze(h:Sub c c'){n m:Nat}(hm:n<=m){args:List PV}{bx:zae}{oc:List Loc}{r:Ans}(hs:zvl c code n args bx oc=some r):zvl c' code m args bx oc=some r:=by
 unfold zvl at hs⊢;split at hs
 case h_2=>cases hs
 split at hs
 case h_2=>cases hs
 obtain⟨k,h1,hs⟩:=qb hs;obtain⟨q,h2,hs⟩:=qb hs;rw[h1,wat,h2,wat];split at hs
 case isFalse=>cases hs
 rename_i hl;rw[if_pos hl];obtain⟨⟨o1,s1⟩,h3,h4⟩:=qb hs;rw[zdt h hm h3,wat];dsimp only at h4⊢;split at h4
 case h_2=>cases h4
 obtain⟨p,h5,h6⟩:=qb h4;rw[zdt h hm h5];exact h6
theorem z1n:∀n,Sub (evF code lib n) (evF code lib (n+1))
 |0=>fun f a b o r h=>by cases h
 |n+1=>fun f a b o r h=>by
  rw[zq0]at h⊢;cases hc:code f with
  |none=>
   rw[hc]at h;dsimp only at h⊢;split at h
   ·rename_i hf;rw[if_pos hf];exact zze (z1n n) (Nat.le_succ n) h
   ·rename_i hf;rw[if_neg hf];exact h
  |some k=>rw[hc]at h;exact z9s (z1n n) (Nat.le_succ n) h
theorem zog{n m:Nat}(hm:n<=m):Sub (evF code lib n) (evF code lib m):=by
 induction m with
 |zero=>have:n=0:=by omega
        subst this;exact fun _ _ _ _ _ h=>h
 |succ m ih=>
  by_cases h:n=m+1
  ·subst h;exact fun _ _ _ _ _ h=>h
  ·exact fun f a b o r hr=>z1n m _ _ _ _ _ (ih (by omega) f a b o r hr)
noncomputable def evW(code:FuncId->Option CFun)(lib:Callee):Callee:=fun f args bx oc=>
 open Classical in if h:∃n r,evF code lib n f args bx oc=some r then some (h.choose_spec.choose)else none
theorem zp3{f:FuncId}{a:List PV}{b:zae}{o:List Loc}{r:Ans}:evW code lib f a b o=some r ↔ ∃n,evF code lib n f a b o=some r:=by
 unfold evW;constructor
 ·intro h
  split at h
  ·rename_i hx
   cases h;exact⟨_,hx.choose_spec.choose_spec⟩
  ·cases h
 ·rintro⟨n,hn⟩
  have hx:∃n r,evF code lib n f a b o=some r:=⟨n,r,hn⟩;rw[dif_pos hx];have h1:=hx.choose_spec.choose_spec;have h2:=zog (wc5 hx.choose n) _ _ _ _ _ h1;have h3:=zog (wc6 hx.choose n) _ _ _ _ _ hn;rw[h2]at h3;exact h3
structure Chain (F:Nat→Callee) (W:Callee):Prop where
 mono:∀ n m,n≤m→Sub (F n) (F m)
 fin:∀ f a b o r,W f a b o=some r→∃ n,F n f a b o=some r
variable {F:Nat→Callee} {W:Callee}
theorem zoh(h:Chain F W){d:Option Nat}{f:FuncId}{az:List PV}(hs:callBx W st d f az=some st'):∃n,callBx (F n) st d f az=some st':=by
 unfold callBx at hs⊢;obtain⟨r,h1,h2⟩:=qm hs;obtain⟨n,h3⟩:=h.fin _ _ _ _ _ h1;exact⟨n,by rw[h3,wau,h2]⟩
theorem zzf(h:Chain F W){d:Option Nat}{f:FuncId}{az:List PV}(hs:callSt W st d f az=some st'):∃n,callSt (F n) st d f az=some st':=by
 unfold callSt at hs⊢;split at hs
 ·rename_i hn
  obtain⟨⟨vs,os,bx,oc⟩,h1,h2⟩:=qb hs;obtain⟨n,h3⟩:=h.fin _ _ _ _ _ h1;dsimp only at h2;split at h2
  ·rename_i hv
   exact⟨n,by rw[if_pos hn,h3,wat];dsimp only;rw[if_pos hv];exact h2⟩
  ·rename_i hv
   obtain⟨m,h4⟩:=zoh h h2;exact⟨max n m,by rw[if_pos hn,h.mono _ _ (wc5 n m) _ _ _ _ _ h3,wat];dsimp only;rw[if_neg hv];exact ziq (h.mono _ _ (wc6 n m)) h4⟩
 ·rename_i hn
  obtain⟨m,h4⟩:=zoh h hs;exact⟨m,by rw[if_neg hn];exact h4⟩
theorem zq1(h:Chain F W){f:FuncId}{az:List PV}(hs:zc7 W f az=true):∃n,zc7 (F n) f az=true:=by
 unfold zc7 at hs⊢;simp only[wb1]at hs⊢;obtain⟨h0,hs⟩:=hs;split at hs
 ·rename_i vs r e
  obtain⟨n,hn⟩:=h.fin _ _ _ _ _ e;exact⟨n,h0,by rw[hn];exact hs⟩
 ·cases hs
theorem yb6(h:Chain F W){sl:List (Nat×PV)}{op:COp}(hs:za6 W sl op=true):∃n,za6 (F n) sl op=true:=by
 cases op
 case call f az=>exact zq1 h hs
 case callv g az=>
  simp only[za6]at hs⊢;split at hs
  ·simp only[wb1]at hs⊢
   obtain⟨n,hn⟩:=zq1 h hs.2;exact⟨n,hs.1,hn⟩
  ·cases hs
 all_goals exact⟨0,hs⟩
theorem z7e(h:Chain F W){f k:Nat}{live:List Nat}{g:PV}{r:Out×St}(hs:zhq W f k live g st=some r):∃n,zhq (F n) f k live g st=some r:=by
 unfold zhq at hs⊢;split at hs
 case h_2=>cases hs
 split at hs
 ·cases hs
 rename_i hne;obtain⟨s2,h1,h2⟩:=qb hs;obtain⟨n,hn⟩:=zoh h h1;exact⟨n,by dsimp only;rw[if_neg hne,hn];exact h2⟩
theorem zzg(h:Chain F W){d:Option Nat}{op:COp}(hs:zaa W st d op=some st'):∃n,zaa (F n) st d op=some st':=by
 cases op
 case call f az=>simp only[zaa]at hs⊢;exact zzf h hs
 case callv g az=>
  simp only[zaa]at hs⊢;split at hs
  ·split at hs
   ·cases hs
   ·rename_i hne;obtain⟨n,hn⟩:=zzf h hs;exact⟨n,by rw[if_neg hne];exact hn⟩
  ·exact zoh h hs
  ·cases hs
 case asg x=>exact⟨0,by rw[<-z9r (c:=W)];exact hs⟩
 case append b n x y=>exact⟨0,by rw[<-zv4 (c:=W)];exact hs⟩
 case appendS x y=>exact⟨0,by rw[<-ztk (c:=W)];exact hs⟩
 all_goals exact⟨0,hs⟩
theorem zmz(h:Chain F W){o:COper}(hs:stepG W st o=some st'):∃n,stepG (F n) st o=some st':=by
 unfold stepG at hs⊢;obtain⟨b,hb,h2⟩:=qb hs;rw[hb];cases b
 ·exact⟨0,h2⟩
 ·exact zzg h h2
theorem yeq(h:Chain F W){o:COper}(hs:zfg W st o=some st'):∃n,zfg (F n) st o=some st':=by
 unfold zfg at hs⊢;obtain⟨b,hb,h2⟩:=qb hs;rw[hb];cases b
 ·exact⟨0,h2⟩
 ·simp only[if_true,wat]at h2⊢
  split at h2
  ·rename_i hp
   obtain⟨n,hn⟩:=zzg h h2;obtain⟨m,hp⟩:=yb6 h hp;exact⟨max n m,by rw[if_pos (zv3 (h.mono _ _ (wc6 n m)) hp)];exact zp1 (h.mono _ _ (wc5 n m)) hn⟩
  ·cases h2
theorem z4d(h:Chain F W):∀{l:List COper}{st st':St},zdc W l st=some st'->∃n,zdc (F n) l st=some st'
 |[],_,_,hs=>⟨0,hs⟩
 |o::l,st,st',hs=>by
  simp only[zdc]at hs;obtain⟨s,h1,h2⟩:=qb hs;obtain⟨n1,k1⟩:=zmz h h1;obtain⟨n2,k2⟩:=z4d h h2;refine⟨max n1 n2,?_⟩;simp only[zdc];rw[zfy (h.mono _ _ (wc5 ..)) k1];exact zoe (h.mono _ _ (wc6 ..)) k2
theorem z4e(h:Chain F W):∀{l:List COper}{st st':St},zij W l st=some st'->∃n,zij (F n) l st=some st'
 |[],_,_,hs=>⟨0,hs⟩
 |o::l,st,st',hs=>by
  simp only[zij]at hs;obtain⟨s,h1,h2⟩:=qb hs;obtain⟨n1,k1⟩:=yeq h h1;obtain⟨n2,k2⟩:=z4e h h2;refine⟨max n1 n2,?_⟩;simp only[zij];rw[zzc (h.mono _ _ (wc5 ..)) k1];exact zof (h.mono _ _ (wc6 ..)) k2
theorem z1o(h:Chain F W){live:List Nat}:∀{t:BT}{st r:St},evT W live t st=some r->∃m,evT (F m) live t st=some r
 | .done,_,_,hs=>⟨0,hs⟩
 | .one o t,st,r,hs=>by
   simp only[evT]at hs;obtain⟨s,h1,h2⟩:=qb hs;obtain⟨n1,k1⟩:=zmz h h1;obtain⟨n2,k2⟩:=z1o h h2;refine⟨max n1 n2,?_⟩;simp only[evT];rw[zfy (h.mono _ _ (wc5 ..)) k1];exact zjm (h.mono _ _ (wc6 ..)) k2
 | .two o t q,st,r,hs=>by
   simp only[evT]at hs;obtain⟨h1,h2⟩:=zqw hs;obtain⟨s,h3,h4⟩:=qb h1;obtain⟨n1,k1⟩:=zmz h h3;obtain⟨n2,k2⟩:=z1o h h4;obtain⟨n3,k3⟩:=z1o h h2;refine⟨max n1 (max n2 n3),?_⟩;simp only[evT];rw[zfy (h.mono _ _ (wc5 ..)) k1,wat,zjm (h.mono _ _ (by omega)) k2,zjm (h.mono _ _ (by omega)) k3,z4c]
theorem yer(h:Chain F W){st st':St}{o:COper}(hs:zd6 W st o=some st'):∃m,zd6 (F m) st o=some st':=by
 unfold zd6 at hs⊢;split at hs
 ·obtain⟨s,h1,h2⟩:=qb hs
  obtain⟨m,k⟩:=zmz h h1;exact⟨m,by rw[k];exact h2⟩
 ·exact zmz h hs
theorem yes(h:Chain F W):∀{l:List COper}{st st':St},evQ W l st=some st'->∃m,evQ (F m) l st=some st'
 |[],_,_,hs=>⟨0,hs⟩
 |o::l,st,st',hs=>by
  simp only[evQ]at hs;obtain⟨s,h1,h2⟩:=qb hs;obtain⟨n1,k1⟩:=yer h h1;obtain⟨n2,k2⟩:=yes h h2;refine⟨max n1 n2,?_⟩;simp only[evQ];rw[zzd (h.mono _ _ (wc5 ..)) k1];exact zu4 (h.mono _ _ (wc6 ..)) k2
theorem zln(h:Chain F W){n:Nat}:∀{k:CCode}{st:St}{r:Out×St},evC W n k st=some r->∃m,evC (F m) n k st=some r
 | .skip,_,_,hs=>⟨0,hs⟩
 | .reg l p t,st,r,hs=>by
   simp only[evC]at hs;obtain⟨s,h1,h2⟩:=qm hs;obtain⟨s1,h3,h4⟩:=qb h1;obtain⟨n1,k1⟩:=z4e h h3;obtain⟨n2,k2⟩:=z4d h h4;refine⟨max n1 n2,?_⟩;simp only[evC];rw[zof (h.mono _ _ (wc5 ..)) k1,wat,zoe (h.mono _ _ (wc6 ..)) k2,wau,h2]
 | .regT l p t,st,r,hs=>by
   simp only[evC]at hs;obtain⟨s,h1,h2⟩:=qm hs;obtain⟨s1,h3,h4⟩:=qb h1;obtain⟨n1,k1⟩:=yes h h3;obtain⟨n2,k2⟩:=z1o h h4;refine⟨max n1 n2,?_⟩;simp only[evC];rw[zu4 (h.mono _ _ (wc5 ..)) k1,wat,zjm (h.mono _ _ (wc6 ..)) k2,wau,h2]
 | .seq a b,st,r,hs=>by
   simp only[evC]at hs;obtain⟨⟨o,s⟩,h1,h2⟩:=qb hs;obtain⟨n1,k1⟩:=zln h h1;cases o with
   |normal=>
    obtain⟨n2,k2⟩:=zln h h2;refine⟨max n1 n2,?_⟩;simp only[evC];rw[zdt (h.mono _ _ (wc5 ..)) (wab n) k1];exact zdt (h.mono _ _ (wc6 ..)) (wab n) k2
   |exit i=>exact⟨n1,by simp only[evC];rw[k1];exact h2⟩
   |ret=>exact⟨n1,by simp only[evC];rw[k1];exact h2⟩
 | .cond x a b,st,r,hs=>by
   simp only[evC]at hs⊢;split at hs
   ·rename_i t e
    cases t
    ·exact zln h hs
    ·exact zln h hs
   ·cases hs
 | .block id b,st,r,hs=>by
   simp only[evC]at hs⊢;obtain⟨s,h1,h2⟩:=qm hs;obtain⟨n1,k1⟩:=zln h h1;exact⟨n1,by rw[k1,wau,h2]⟩
 | .range f k lv g,st,r,hs=>by
   simp only[evC]at hs⊢;exact z7e h hs
 | .loop lv b,st,r,hs=>by
   simp only[evC]at hs⊢;have key:∀(k nb:Nat)(st:St)(r:Out×St),zcn (evC W n b) lv nb k st=some r->∃m,zcn (evC (F m) n b) lv nb k st=some r:=by
    intro k nb
    induction k with
    |zero=>intro st r h;cases h
    |succ k ih=>
     intro st r hs;simp only[zcn]at hs;obtain⟨⟨o,s⟩,h1,h2⟩:=qb hs;obtain⟨n1,k1⟩:=zln h h1;cases o with
     |normal=>
      obtain⟨n2,k2⟩:=ih _ r h2;refine⟨max n1 n2,?_⟩;simp only[zcn];rw[zdt (h.mono _ _ (wc5 ..)) (wab n) k1];exact zp2 (fun s r hs=>zdt (h.mono _ _ (wc6 ..)) (wab n) hs) (wab k) k2
     |exit i=>exact⟨n1,by simp only[zcn];rw[k1];exact h2⟩
     |ret=>exact⟨n1,by simp only[zcn];rw[k1];exact h2⟩
   exact key n _ _ r hs
 | .exit id lv,_,_,hs=>⟨0,hs⟩
 | .ret lv,_,_,hs=>⟨0,hs⟩
theorem yet:Chain (evF code lib) (evW code lib):=⟨fun n m h=>zog h,fun f a b o r h=>zp3.1 h⟩
theorem ywy{f:FuncId}{k:CFun}(hk:code f=some k){args:List PV}{bx:zae}{oc:List Loc}{r:Ans}{n:Nat}(h:evB (evW code lib) n k args bx oc=some r):evW code lib f args bx oc=some r:=by
 unfold evB at h;split at h
 case isFalse=>cases h
 rename_i hl;obtain⟨p,h1,h2⟩:=qb h;obtain⟨m,h3⟩:=zln yet h1;refine zp3.2 ⟨max m n+1,?_⟩;rw[zq0,hk];dsimp only;unfold evB;rw[if_pos hl,zdt (zog (wc5 m n)) (wc6 m n) h3];exact h2
theorem yra(hk:code yldF=none){args:List PV}{bx:zae}{oc:List Loc}{r:Ans}{n:Nat}(h:zvl (evW code lib) code n args bx oc=some r):evW code lib yldF args bx oc=some r:=by
 unfold zvl at h;split at h
 case h_2=>cases h
 rename_i b az;split at h
 case h_2=>cases h
 rename_i e0 f k live snap e;obtain⟨kc,h1,h⟩:=qb h;obtain⟨q,h2,h⟩:=qb h;split at h
 case isFalse=>cases h
 rename_i hl;obtain⟨⟨o1,s1⟩,h3,h4⟩:=qb h;dsimp only at h4;split at h4
 case h_2=>cases h4
 rename_i e1 f1 k1 live1 snap1 hs1;obtain⟨p,h5,h6⟩:=qb h4;obtain⟨m,h7⟩:=zln yet h3;obtain⟨m2,h8⟩:=zln yet h5;refine zp3.2 ⟨max (max m m2) n+1,?_⟩;rw[zq0,hk];dsimp only;rw[if_pos rfl];unfold zvl;dsimp only;rw[e];dsimp only;rw[h1,wat,h2,wat,if_pos hl,zdt (zog (by omega)) (by omega) h7,wat];dsimp only;rw[hs1];dsimp only;rw[zdt (zog (by omega)) (by omega) h8];exact h6
theorem zde{f:FuncId}(hf:f≠yldF)(hk:code f=none){args:List PV}{bx:zae}{oc:List Loc}{r:Ans}(h:lib f args bx oc=some r):evW code lib f args bx oc=some r:=
 zp3.2 ⟨1,by rw[zq0,hk];dsimp only;rw[if_neg hf];exact h⟩
theorem ypw{P:Program}{Γ:Glob}(hm:P.follows .mixedOrders=true)(hyn:P.funcs[yldF]?=none)(hcode:∀f c,code f=some c->∃lv,z36 P lv f=some c)(hlib:zcj P Γ lib):zcj P Γ (evW code lib):=fun f args bx oc vs' os bx' oc' h=>by
 obtain⟨n,hn⟩:=zp3.1 h;exact ywx hm hyn hcode hlib n f args bx oc vs' os bx' oc' hn
end Nun
namespace Nun
open Go Go.RowKit Go.WideShapes Go.ChangeShapes
def Fr0(w:World)(g:Nat):Nat:=match w.heap[g]? with|some (.cells cs _ _)=>cs.size|_=>0
theorem ywz{w:World}{g o:Nat}{v:Value}(h:w.cell? ⟨g,o,none⟩=some v):o<Fr0 w g:=by
 unfold World.cell? at h;unfold Fr0;dsimp only at h;split at h
 ·rename_i cs t z hg
  rw[hg];dsimp only;simp only[Option.isSome_none,wbf,if_false]at h;exact(wan.1 h).1
 ·cases h
theorem z4f{w:World}{a:Addr}{v:Value}(h:w.cell? a=some v):a=⟨a.block,a.off,none⟩:=by
 obtain⟨b,o,s⟩:=a;cases s with
 |none=>rfl
 |some s=>
  unfold World.cell? at h;dsimp only at h;split at h
  ·simp at h
  ·cases h
def fit(P:Program):Nat->TypeId->List PV->Prop
 |0,_,_=>False
 |n+1,t,ps=>match P.underlying t with
  |some .bool=>∃b,ps=[.flat (.bool b)]
  |some (.int k)=>∃i,ps=[.flat (.int k i)]/\(Lit.int k i).wf=true
  |some .string=>∃s:ByteArray,ps=[.flat (.string s)]/\s.size<=maxLen
  |some (.pointer e)=>ps=[.flat (.pointer none)]\/(P.cellsOf e=0/\ps=[.unk])\/∃qs,ps=[.elt qs]/\fit P n e qs
  |some (.slice e)=>∃xss:List (List PV),ps=[.slc xss.length xss.flatten]/\xss.length<=maxLen/\∀xs∈xss,fit P n e xs
  |some (.struct fs)=>∃xss:List (List PV),ps=xss.flatten/\xss.length=fs.size/\∀(j:Nat)(f:Field)(xs:List PV),fs[j]?=some f->xss[j]?=some xs->fit P n f.type xs
  |some (.array m e)=>∃xss:List (List PV),ps=xss.flatten/\xss.length=m/\∀xs∈xss,fit P n e xs
  |_=>True
def z9t(P:Program)(w:World)(n:Nat)(t:TypeId)(cs:List Value):Prop:=∃ps,Rds w (Fr0 w) [] ps cs/\Ones cs/\fit P n t ps
theorem zm0{w:World}{base:Nat}{a:Addr}{n:Nat}{cs:List Value}(h:w.cells? base a n=some cs)(hn:0<n):a=⟨a.block,a.off,none⟩/\Row w (Fr0 w) a.block a.off cs:=by
 obtain⟨_,hl,hc⟩:=World.cells?_some h;have h0:=hc 0 hn;rw[qe (by omega)]at h0;have ha:a=⟨a.block,a.off,none⟩:=by
  have:=z4f h0;obtain⟨b,o,s⟩:=a;simp only[Addr.add]at this;simp_all
 refine⟨ha,fun j v hj=>?_⟩;have hjn:j<n:=by have:=(qg hj).1;omega
 have h1:=hc j hjn;rw[hj]at h1;have e:a.add j=⟨a.block,a.off+j,none⟩:=by
  have:=z4f h1;rw[ha]at this⊢;unfold Addr.add at this⊢;split
  ·rename_i h0;subst h0;rfl
  ·rfl
 rw[e]at h1;exact⟨ywz h1,h1⟩
theorem yb7{w:World}{Fr:Nat->Nat}{g o:Nat}{us vs:List Value}(h:Row w Fr g o us)(k:Row w Fr g (o+us.length) vs):Row w Fr g o (us++vs):=fun j v hj=>by
 by_cases hlt:j<us.length
 ·rw[waa hlt]at hj;exact h j v hj
 ·rw[wbr (by omega)]at hj
  have:=k (j - us.length) v hj;rwa[show o+us.length+(j - us.length)=o+j by omega]at this
theorem zv5{us vs:List Value}(h:Ones us)(k:Ones vs):Ones (us++vs):=fun v hv=>(wak.1 hv).elim (h v) (k v)
theorem zp4{P:Program}{w:World}{n:Nat}{α:Type}{ty:α->TypeId}{size:α->Nat}:∀(l:List α)(cs:List Value),cs.length=(l.map size).sum->
 (∀(j:Nat)(f:α),l[j]?=some f->z9t P w n (ty f) ((cs.drop ((l.take j).map size).sum).take (size f)))->
 ∃xss:List (List PV),Rds w (Fr0 w) [] xss.flatten cs/\Ones cs/\xss.length=l.length/\∀(j:Nat)(f:α)(xs:List PV),l[j]?=some f->xss[j]?=some xs->fit P n (ty f) xs
 |[],cs,hl,_=>by
  have:cs=[]:=qz (by simpa using hl);subst this;exact⟨[],by simp[Rds],(fun v hv=>by cases hv),rfl,(fun j f xs h=>by simp at h)⟩
 |f::l,cs,hl,h=>by
  simp only[wax,List.sum_cons]at hl;obtain⟨ps,h1,h2,h3⟩:=h 0 f rfl;simp only[List.take_zero,wc7,List.sum_nil,wc8]at h1 h2;obtain⟨xss,k1,k2,k3,k4⟩:=zp4 (P:=P) (w:=w) (n:=n) (ty:=ty) (size:=size) l (cs.drop (size f)) (by rw[wbc];omega) fun j g hj=>by
   have:=h (j+1) g (by simpa using hj);simp only[wag,wax,List.sum_cons]at this;rw[wbd];exact this
  refine⟨ps::xss,?_,?_,by simp[k3],fun j g xs hg hx=>?_⟩
  ·rw[List.flatten_cons]
   have:=h1.append k1;rwa[wc9]at this
  ·have:=zv5 h2 k2
   rwa[wc9]at this
  ·cases j with
   |zero=>simp at hg hx;subst hg;subst hx;exact h3
   |succ j=>exact k4 j g xs (by simpa using hg) (by simpa using hx)
theorem mapM_at{α γ:Type}{f:α->Option γ}{l:List α}{r:List γ}(h:l.mapM f=some r)(j:Nat)(o:α)(ho:l[j]?=some o):∃c,f o=some c:=by
 obtain⟨h1,h2⟩:=zqy h;have hj:j<r.length:=by rw[h1];exact(qg ho).1
 obtain⟨o',k1,k2⟩:=h2 j _ (qe hj);rw[ho]at k1;cases k1;exact⟨_,k2⟩
section
variable {H:Type} {enc:TypeId × Value→H} {P:Program} {w:World} {base:Nat} {spare:Nat→Bool} {held:Bool}
theorem ze1{n:Nat}{t:TypeId}{v:Value}{p:PV}(h:Rd w (Fr0 w) [] p v)(ho:v.oneCell'=true)(hf:fit P n t [p]):z9t P w n t [v]:=
 ⟨[p],by simp only[Rds];exact⟨v,[],rfl,h,rfl⟩,fun u hu=>by simp at hu;rw[hu];exact ho,hf⟩
theorem z4g(m c j:Nat)(h:j<=m):(((List.range m).take j).map fun _=>c).sum=j* c:=by
 rw[List.map_const',List.sum_replicate_nat,wa2,List.length_range,Nat.min_eq_left h]
theorem zdf{n:Nat}{t:TypeId}{v:Value}(ho:v.oneCell'=true)(hf:fit P n t [.unk]):z9t P w n t [v]:=ze1 (p:=.unk) (by simp[Rd]) ho hf
theorem yeu(K:Kids P (·<P.types.size))(hz:∀t e,t<P.types.size->P.underlying t=some (.slice e)->0<P.cellsOf e):∀(n:Nat)(t:TypeId)(cs:List Value)(x:DataW H×List MemPlace),t<P.types.size->
 DataW.trod enc P w base spare held n t cs=some x->z9t P w n t cs:=by
 intro n
 induction n with
 |zero=>intro t cs x _ h;simp[DataW.trod]at h
 |succ n ih=>
  intro t cs x ht h;rw[DataW.trod_step]at h;unfold DataW.trodStep at h;split at h
  case h_1 b e=>exact ze1 (p:=.flat (.bool b)) (by simp[Rd,zdi]) rfl (by simp only[fit,e];exact⟨b,rfl⟩)
  case h_2 k k' i e=>
   split at h
   ·rename_i hc
    obtain⟨rfl,hc⟩:=hc;exact ze1 (p:=.flat (.int k' i)) (by simp[Rd,zdi]) rfl (by simp only[fit,e];exact⟨_,rfl,hc⟩)
   ·cases h
  case h_3 e=>exact zdf rfl (by simp only[fit,e])
  case h_4 s e=>
   split at h
   ·rename_i hc
    exact ze1 (p:=.flat (.string s)) (by simp[Rd,zdi]) rfl (by simp only[fit,e];exact⟨_,rfl,hc⟩)
   ·cases h
  case h_5 e=>exact ze1 (p:=.flat (.pointer none)) (by simp[Rd,zdi]) rfl (by simp only[fit,e];exact .inl trivial)
  case h_6 e a he=>
   simp only[Option.map_eq_some_iff,Option.bind_eq_some_iff]at h;obtain⟨y,⟨cs',hc,hy⟩,rfl⟩:=h;by_cases h0:P.cellsOf e=0
   ·exact zdf rfl (by simp only[fit,he];exact .inr (.inl ⟨h0,by trivial⟩))
   ·obtain⟨ha,hr⟩:=zm0 hc (by omega)
    obtain⟨qs,h1,h2,h3⟩:=ih e cs' y (K.pointer ht he) hy;refine ze1 (p:=.elt qs) ?_ rfl (by simp only[fit,he];exact .inr (.inr ⟨qs,rfl,h3⟩));simp only[Rd];exact⟨a.block,a.off,cs',by rw[ha],hr,h1,h2⟩
  case h_7 e=>
   refine ze1 (p:=.slc 0 []) ?_ rfl (by simp only[fit,e];exact⟨[],rfl,wa7 _,fun _ h=>by cases h⟩);simp only[Rd];exact⟨none,0,rfl,wab _,.inl ⟨trivial,trivial⟩⟩
  case h_8 e a len cap he=>
   have hC:=hz t e ht he;split at h
   case isFalse=>cases h
   rename_i hc;obtain⟨hb,hl,hm⟩:=hc;simp only[Option.bind_eq_some_iff]at h;obtain⟨elems,hel,_⟩:=h;obtain⟨hlen,_⟩:=zqy hel;have hat:∀i,i<len->∃cs y,w.cells? base (a.add (i* P.cellsOf e)) (P.cellsOf e)=some cs/\DataW.trod enc P w base spare held n e cs=some y:=fun i hi=>by
    obtain⟨c,hc⟩:=mapM_at hel i i (wci hi);obtain⟨cs,k1,k2⟩:=qb hc;exact⟨cs,c,k1,k2⟩
   by_cases h0:len=0
   ·subst h0
    refine ze1 (p:=.slc 0 []) ?_ rfl (by simp only[fit,he];exact⟨[],rfl,wa7 _,fun _ h=>by cases h⟩);simp only[Rd];exact⟨some a,cap,rfl,wa7 _,.inl ⟨trivial,trivial⟩⟩
   ·have key:∀k,k<=len->∃(vs:List Value)(xss:List (List PV)),vs.length=k* P.cellsOf e/\Row w (Fr0 w) a.block a.off vs/\Rds w (Fr0 w) [] xss.flatten vs/\Ones vs/\xss.length=k/\∀xs∈xss,fit P n e xs:=by
     intro k
     induction k with
     |zero=>exact fun _=>⟨[],[],by simp,(fun j v hj=>by simp at hj),by simp[Rds],(fun v hv=>by cases hv),rfl,fun _ h=>by cases h⟩
     |succ k ihk=>
      intro hk;obtain⟨vs,xss,k1,k2,k3,k4,k5,k6⟩:=ihk (by omega);obtain⟨cs,y,q1,q2⟩:=hat k (by omega);obtain⟨qa,qr⟩:=zm0 q1 hC;obtain⟨ps,r1,r2,r3⟩:=ih e cs y (K.slice ht he) q2;have hcl:cs.length=P.cellsOf e:=(World.cells?_some q1).2.1;refine⟨vs++cs,xss++[ps],by rw[wb0,k1,hcl,Nat.succ_mul],yb7 k2 ?_,by rw[List.flatten_append];simpa using k3.append r1,zv5 k4 r2,by simp[k5],fun xs hx=>?_⟩
      ·have e1:(a.add (k* P.cellsOf e)).block=a.block:=by unfold Addr.add;split<;>rfl
       have e2:(a.add (k* P.cellsOf e)).off=a.off+k* P.cellsOf e:=by
        unfold Addr.add;split
        ·rename_i h9;rw[h9];rfl
        ·rfl
       rw[e1,e2]at qr;rw[k1];exact qr
      ·rcases wak.1 hx with hx|hx
       ·exact k6 xs hx
       ·simp at hx;subst hx;exact r3
    obtain⟨vs,xss,k1,k2,k3,k4,k5,k6⟩:=key len (wab _);refine ze1 (p:=.slc xss.length xss.flatten) ?_ rfl (by simp only[fit,he];exact⟨xss,rfl,by omega,k6⟩);have ha:a=⟨a.block,a.off,none⟩:=by
     obtain⟨cs,y,q1,q2⟩:=hat 0 (by omega);obtain⟨qa,_⟩:=zm0 q1 hC;unfold Addr.add at qa;simpa using qa
    simp only[Rd];exact⟨some a,cap,by rw[k5],by omega,.inr ⟨a.block,a.off,vs,by rw[<-ha],k2,k3,k4⟩⟩
  case h_9 fs he=>
   obtain⟨s1,s2,s3⟩:=K.struct ht he;split at h
   case isFalse=>cases h
   rename_i hc;obtain⟨xs,hx,_⟩:=qm h;obtain⟨xss,k1,k2,k3,k4⟩:=zp4 (P:=P) (w:=w) (n:=n) (ty:=Field.type) (size:=fun f=>P.cellsOf f.type) fs.toList _ (by rw[hc,s2]) fun j f hj=>by
    obtain⟨c,hcc⟩:=mapM_at hx j f hj;rw[s3 j f hj]at hcc;exact ih f.type _ c (s1 f (wao hj)) hcc
   exact⟨xss.flatten,k1,k2,by simp only[fit,he];exact⟨xss,rfl,by rw[k3];simp,fun j f ys hf hy=>k4 j f ys (by rw[wb6];exact hf) hy⟩⟩
  case h_10 m e he=>
   obtain⟨s1,s2⟩:=K.array ht he;split at h
   case isFalse=>cases h
   rename_i hc;obtain⟨xs,hx,_⟩:=qm h;obtain⟨xss,k1,k2,k3,k4⟩:=zp4 (P:=P) (w:=w) (n:=n) (ty:=fun _=>e) (size:=fun _=>P.cellsOf e) (List.range m) _ (by rw[hc,s2];have:=z4g m (P.cellsOf e) m (wab _);rw[wco (by simp)]at this;exact this.symm) fun j f hj=>by
    obtain⟨c,hcc⟩:=mapM_at hx j f hj;have hjm:j<m:=by have:=(qg hj).1;simpa using this
    have hfj:f=j:=by rw[wci hjm]at hj;cases hj;rfl
    subst hfj;rw[z4g m _ f (by omega)];exact ih e _ c s1 hcc
   refine⟨xss.flatten,k1,k2,?_⟩;simp only[fit,he];refine⟨xss,rfl,by rw[k3];simp,fun ys hy=>?_⟩;obtain⟨j,hj⟩:=List.getElem?_of_mem hy;have hjm:j<m:=by have:=(qg hj).1;rw[k3]at this;simpa using this
   exact k4 j j ys (wci hjm) hj
  case h_11 e=>exact zdf rfl (by simp only[fit,e])
  case h_12 e=>exact zdf rfl (by simp only[fit,e])
  case h_13 e=>exact zdf rfl (by simp only[fit,e])
  case h_14 e=>exact zdf rfl (by simp only[fit,e])
  case h_15 e=>exact zdf rfl (by simp only[fit,e])
  case h_16 e=>exact zdf rfl (by simp only[fit,e])
  case h_17 e=>exact zdf rfl (by simp only[fit,e])
  case h_18 e=>exact zdf rfl (by simp only[fit,e])
  case h_19 e=>exact zdf rfl (by simp only[fit,e])
  case h_20 e=>exact zdf rfl (by simp only[fit,e])
  case h_21=>cases h
def fitA(P:Program)(n:Nat)(t:TypeId)(p:PV):Prop:=match P.underlying t with
 |some (.struct _)|some (.array _ _)=>∃ps,p=.agg ps/\fit P n t ps
 |_=>fit P n t [p]
def fits(P:Program):List TypeId->List PV->Prop
 |[],[]=>True
 |t::ts,p::ps=>(∃n,fitA P n t p)/\fits P ts ps
 |_,_=>False
theorem cells_one{r:Reach}{b0:Nat}{t:TypeId}{v:Value}(h:Cell.okWide P w r b0 t v):v.cells=#[v]:=by
 cases v
 case agg cs=>
  exfalso;unfold Cell.okWide at h;split at h
  all_goals first
   |(simp_all;done)
   |skip
  unfold Cell.ok at h;split at h<;>simp_all
 all_goals rfl
theorem ykn(K:Kids P (·<P.types.size))(hz:∀t e,t<P.types.size->P.underlying t=some (.slice e)->0<P.cellsOf e){r:Reach}{b0:Nat}{t:TypeId}{v:Value}{d:DataW H}{ps:List MemPlace}(ht:t<P.types.size)(hok:Value.okWide P w r b0 t v)
 (h:DataW.Trod enc P w base spare held t v d ps):∃n p,Rd w (Fr0 w) [] p v/\fitA P n t p:=by
 obtain⟨n,hn⟩:=h;obtain⟨qs,h1,h2,h3⟩:=yeu K hz n t _ _ ht hn;unfold Value.okWide at hok;split at hok
 case h_1 fs e=>
  obtain⟨cs,rfl,_⟩:=hok;refine⟨n,.agg qs,?_,by simp only[fitA,e];exact⟨qs,rfl,h3⟩⟩;simp only[Rd];exact⟨cs.toList,by simp,h1,h2⟩
 case h_2 m e' e=>
  obtain⟨cs,rfl,_⟩:=hok;refine⟨n,.agg qs,?_,by simp only[fitA,e];exact⟨qs,rfl,h3⟩⟩;simp only[Rd];exact⟨cs.toList,by simp,h1,h2⟩
 case h_3 e1 e2=>
  have hc:=cells_one hok;rw[hc]at h1;obtain⟨p,q,rfl⟩:∃p q,qs=p::q:=by
   cases qs with
   |nil=>simp[Rds]at h1
   |cons p q=>exact⟨p,q,rfl⟩
  simp only[Rds,wby]at h1;obtain⟨u,u',⟨rfl,rfl⟩,k1,k2⟩:=h1;have:q=[]:=by
   cases q with
   |nil=>rfl
   |cons a b=>simp[Rds]at k2
  subst this;refine⟨n,p,k1,?_⟩;unfold fitA;split
  ·rename_i fs e;exact absurd e (e1 _)
  ·rename_i m e' e;exact absurd e (e2 _ _)
  ·exact h3
theorem z4h(K:Kids P (·<P.types.size))(hz:∀t e,t<P.types.size->P.underlying t=some (.slice e)->0<P.cellsOf e){r:Reach}{b0:Nat}:∀{ts:List TypeId}{vs:List Value}{ds:List (DataW H)}{ps:List MemPlace},(∀t∈ts,t<P.types.size)->
 (∀(j:Nat) t v,ts[j]?=some t->vs[j]?=some v->Value.okWide P w r b0 t v)->DataW.TrodAll enc P w base spare held ts vs ds ps->∃pvs,Rds w (Fr0 w) [] pvs vs/\fits P ts pvs
 |[],vs,ds,ps,_,_,h=>by
  cases vs<;>cases ds<;>simp[DataW.TrodAll]at h;exact⟨[],by simp[Rds],trivial⟩
 |t::ts,vs,ds,ps,hts,hok,h=>by
  obtain⟨v,vs',d,ds',p,q,rfl,rfl,rfl,h1,h2⟩:=trodAll_cons h;obtain⟨n,pv,k1,k2⟩:=ykn K hz (hts t (by simp)) (hok 0 t v rfl rfl) h1;obtain⟨pvs,k3,k4⟩:=z4h K hz (fun t ht=>hts t (by simp[ht])) (fun j t v hj hv=>hok (j+1) t v (by simpa using hj) (by simpa using hv)) h2;exact⟨pv::pvs,by simp only[Rds];exact⟨v,vs',rfl,k1,k3⟩,⟨n,k2⟩,k4⟩
end
theorem ztl{H:Type}{enc:TypeId×Value->H}{P:Program}{W W':World}(K:Kids P (·<P.types.size))(hz:∀t e,t<P.types.size->P.underlying t=some (.slice e)->0<P.cellsOf e)(hb:Below W.heap.size W W'):∀{ts:List TypeId}{vs:List Value}{ds:List (DataW H)}{ps:List MemPlace},(∀t∈ts,t<P.types.size)->
 DataW.TrodAll enc P W 0 (fun _=>true) true ts vs ds ps->DataW.TrodAll enc P W' 0 (fun b=>decide (b<W.heap.size)) true ts vs ds ps
 |[],vs,ds,ps,_,h=>by
  cases vs<;>cases ds<;>simp[DataW.TrodAll]at h⊢;exact h
 |t::ts,vs,ds,ps,hts,h=>by
  have hlt:=DataW.TrodAll.lt h;obtain⟨v,vs',d,ds',p,q,rfl,rfl,rfl,⟨n,h1⟩,h2⟩:=trodAll_cons h;refine⟨p,q,⟨n,?_⟩,ztl K hz hb (fun t ht=>hts t (by simp[ht])) h2,rfl⟩;have k1:=DataW.trod_respare (spare':=fun b=>decide (b<W.heap.size)) K hz n _ _ _ (hts t (by simp)) h1 fun m hm=>by
   have:=hlt m (wak.2 (.inl hm));simpa using this
  exact DataW.trod_carry n _ _ _ k1 fun m hm=>hb.same (hlt m (wak.2 (.inl hm)))
theorem yko{H:Type}{enc:TypeId×Value->H}{P:Program}{W W':World}{f:Func}{s:ChangeSpec}{args:Array Value}{ds gs:List (DataW H)}{before:List MemPlace}{tb:TypeId}(K:Kids P (·<P.types.size))(hz:∀t e,t<P.types.size->P.underlying t=some (.slice e)->0<P.cellsOf e)
 (hW:DataW.Whole enc P f.params.toList s.vars false W args.toList ds gs before) (hvars:s.vars=[]) (hfn:s.fn H ds={results:=[.lit (.bool true)],args:=ds}) (hres:f.resultTypes=#[tb]) (htb:P.underlying tb=some .bool) (hts:∀t∈f.params.toList,t<P.types.size)
 (hb:Below W.heap.size W W'):s.post enc P f false true false false W args (.bool true) W':=by
 have hW':=hW;obtain⟨p,q,h1,h2,rfl,h3,h4⟩:=hW;have hgs:gs=[]/\q=[]:=by
  rw[hvars]at h2;cases gs<;>simp[DataW.TrodVars]at h2;exact⟨rfl,h2⟩
 obtain⟨rfl,rfl⟩:=hgs;refine⟨ds,[],_,[],p,[],hW',?_,?_,?_,hb.frame _,fun h=>by cases h⟩
 ·rw[wcf,hfn,hres]
  exact trodAll_mk1 (shut_bool htb true)
 ·rw[wcf,hfn]
  exact ztl K hz hb hts h1
 ·rw[wcf,hfn,hvars]
  rfl
theorem zv6{H:Type}{enc:TypeId×Value->H}{P:Program}{w:World}{base:Nat}{spare:Nat->Bool}{held:Bool}:∀{ts:List TypeId}{vs:List Value}{ds:List (DataW H)}{ps:List MemPlace},DataW.TrodAll enc P w base spare held ts vs ds ps->ds.length=ts.length
 |[],vs,ds,ps,h=>by cases vs<;>cases ds<;>simp[DataW.TrodAll]at h⊢
 |t::ts,vs,ds,ps,h=>by
  obtain⟨v,vs',d,ds',p,q,rfl,rfl,rfl,_,h2⟩:=trodAll_cons h;simp[zv6 h2]
end Nun
namespace Nun
open Go Go.RowKit
variable {P:Program} {Γ:Glob} {cf:Callee}
theorem ykp(h:zcj P Γ cf){f:FuncId}(hf:f≠yldF){args:List PV}{v:Value}{os:Bool}{bx:zae}{oc:List Loc}(he:cf f args [] []=some ([.flat v],os,bx,oc)){w:World}{Fr:Nat->Nat}{vs:List Value}(hG:Γ.G w)(hr:Rds w Fr [] args vs):
 Calls P f vs.toArray w fun e w'=>e=.returned v/\Below w.heap.size w w':=by
 have h2:=h f args [] [] _ _ _ _ he w Fr [] vs ⟨hG,hr,z3v w Fr,(fun L h=>by cases h),fun g _=>zkq⟩;unfold Enters at h2;rw[if_neg hf]at h2;refine h2.2.mono ?_;rintro e w' ⟨v0,Fr',β',rfl,hp⟩;have:=hp.rd;simp only[zef,Rd]at this;obtain⟨rfl,_⟩:=this;exact⟨rfl,hp.rel.os,hp.rel.tape,hp.rel.output,hp.le.size,fun k hk=>(hp.rel.old k hk zkq).1⟩
def zzh(P:Program)(Γ:Glob)(f:FuncId)(spec:List Value->Option Value):Prop:=zgz P f=true/\∀vs v,spec vs=some v->zdi v=true/\∀w,Γ.G w->Calls P f vs.toArray w fun e w'=>e=.returned v/\Below w.heap.size w w'
def zv7:List PV->Option (List Value)
 |[]=>some []
 | .flat v::r=>(zv7 r).map (v::·)
 |_=>none
def zlo(spec:FuncId->List Value->Option Value):Callee:=fun f args bx oc=>match bx,oc with
 |[],[]=>((zv7 args).bind (spec f)).map fun v=>([.flat v],false,[],[])
 |_,_=>none
theorem zq2{w:World}{Fr:Nat->Nat}{β:List Nat}:∀{args:List PV}{us vs:List Value},zv7 args=some us->Rds w Fr β args vs->vs=us
 |[],us,vs,h,k=>by simp[zv7]at h;simp[Rds]at k;rw[k,<-h]
 |p::r,us,vs,h,k=>by
  cases p<;>simp only[zv7]at h<;>try (cases h;done)
  rename_i v;obtain⟨us',h1,rfl⟩:=qm h;simp only[Rds]at k;obtain⟨u,vs',rfl,k1,k2⟩:=k;simp only[Rd]at k1;rw[k1.1,zq2 h1 k2]
theorem yb8{spec:FuncId->List Value->Option Value}(hne:∀f vs v,spec f vs=some v->f≠yldF)(h:∀f vs v,spec f vs=some v->zzh P Γ f (spec f)):zcj P Γ (zlo spec):=by
 intro f args bx oc vs' os bx' oc' he;unfold zlo at he;split at he
 case h_2=>cases he
 obtain⟨v,hv,he⟩:=qm he;cases he;obtain⟨us,hus,hsp⟩:=qb hv;obtain⟨h1,h2⟩:=h f us v hsp;intro w Fr β vs hp;refine enters_of h1 (hne f us v hsp) ?_;obtain rfl:=zq2 hus hp.args;obtain⟨h3,h4⟩:=h2 _ v hsp;refine(h4 w hp.g).mono ?_;rintro e w' ⟨rfl,hb⟩;obtain⟨R,hl⟩:=hp.rel.grow hb (Fr':=Fr) fun _ _=>rfl
 exact⟨v,Fr,β,rfl,by simp[zef,Rd,h3],R,hl,(fun L h=>by cases h),fun h=>by cases h⟩
def Rn(x:Option (Out×St))(Q:Out->St->Prop):Prop:=∃o s,x=some (o,s)/\Q o s
theorem Rn.mono{x:Option (Out×St)}{Q R:Out->St->Prop}(h:Rn x Q)(k:∀o s,Q o s->R o s):Rn x R:=by
 obtain⟨o,s,h1,h2⟩:=h;exact⟨o,s,h1,k o s h2⟩
def big:Nat:=2^64
end Nun
end

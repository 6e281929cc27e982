/- LetterNests answers true for all numbers and flags, at any start: texts of this proof, merged. -/
import Derived.Test.YtmpiobfdchlikaaGreatDoorNa
import Derived.RangeFuncIn
import Derived.Orders
import Derived.ReadAgain
import Derived.ChangeSame
import Derived.ChangeReads
import Derived.DataReads
import Derived.WideShapes
set_option linter.unusedVariables false
set_option linter.unusedSimpArgs false
set_option maxHeartbeats 4000000
section
namespace Nun
open Go Go.RowKit
structure Glob where
 D:Nat→Prop
 G:World→Prop
 lt:∀ w,G w→∀ g,D g→g<w.heap.size
 keep:∀ w w',G w→(∀ g,D g→w'.heap[g]? =w.heap[g]?)→G w'
def act0:Act:=⟨#[],[]⟩
def znp (bx:zao) (oc:List Loc):St:=⟨[],oc,[],bx⟩
def zel (w:World) (β:List Nat) (oc:List Loc) (g:Nat):Prop:=g∈β∨∃ L∈oc,∃ v,zay act0 w β L=some v∧v.ownBlock=some g
structure Pre (P:Program) (Γ:Glob) (w:World) (Fr:Nat→Nat) (β:List Nat) (args:List PV) (vs:List Value) (bx:zao) (oc:List Loc):Prop where
 g:Γ.G w
 args:Rds w Fr β args vs
 rel:Rel P [] w.heap.size (zel w β oc) w Fr 0 (znp bx oc) act0 w Fr β
 cells:∀ L∈oc,zah L=true
 dis:∀ g,Γ.D g→¬ zel w β oc g
structure Post (P:Program) (w:World) (Fr:Nat→Nat) (β:List Nat) (oc:List Loc) (vs':List PV) (os:Bool) (bx':zao) (oc':List Loc) (v:Value) (w':World) (Fr':Nat→Nat) (β':List Nat):Prop where
 rd:Rd w' Fr' β' (zd7 vs') v
 rel:Rel P [] w.heap.size (zel w β oc) w Fr 0 (znp bx' oc') act0 w' Fr' β'
 le:Le w Fr β w' Fr' β'
 cells:∀ L∈oc',zah L=true
 own:os=true→OwnV P w' Fr' (zd7 vs') v∧∀ g,v.ownBlock=some g→(w.heap.size≤g∨zel w β oc g)∧g ∉ β'∧∀ L∈oc',∀ u,zay act0 w' β' L=some u→u.ownBlock≠some g
def zgq (P:Program) (f:FuncId):Bool:=match P.funcs[f]? with
 | some fn=>fn.name != "runtime.NumGoroutine" && fn.body.isSome
 | none=>false
def Enters (P:Program) (f:FuncId) (vs:List Value) (w:World) (R:Ending→World→Prop):Prop :=
 if f=yldF then ∃ l az r,vs=.func (.yield l) #[] #[]::az∧w.heap[l]? =some (.loop r)∧az.length=r.params.size ∧
  RoundIn Fence.wide 0 P l r.fn ((r.params.zip az.toArray).foldl (fun tmps (t,a)=>tmps.setIfInBounds t a) r.tmps) r.assign r.body w R
 else zgq P f=true∧Calls P f vs.toArray w R
theorem Enters.mono {P:Program} {f:FuncId} {vs:List Value} {w:World} {R R':Ending→World→Prop} (h:Enters P f vs w R) (k:∀ e w',R e w'→R' e w'):Enters P f vs w R':=by
 unfold Enters at h ⊢
 split
 ·rename_i hf
  rw [if_pos hf] at h
  obtain ⟨l,az,r,h1,h2,h3,h4⟩:=h
  exact ⟨l,az,r,h1,h2,h3,h4.mono k⟩
 ·rename_i hf
  rw [if_neg hf] at h
  exact ⟨h.1,h.2.mono k⟩
theorem enters_of {P:Program} {f:FuncId} {vs:List Value} {w:World} {R:Ending→World→Prop} (h:zgq P f=true) (hn:f≠yldF) (k:Calls P f vs.toArray w R):Enters P f vs w R:=by
 unfold Enters;rw [if_neg hn];exact ⟨h,k⟩
def zbv (P:Program) (Γ:Glob) (cf:Callee):Prop:=∀ f args bx oc vs' os bx' oc',cf f args bx oc=some (vs',os,bx',oc')→∀ w Fr β vs,Pre P Γ w Fr β args vs bx oc →
 Enters P f vs w fun e w'=>∃ v Fr' β',e=.returned v∧Post P w Fr β oc vs' os bx' oc' v w' Fr' β'
section
variable {P:Program} {w w':World} {Fr Fr':Nat→Nat} {β β':List Nat} {T:List Deferred} {base nt:Nat} {M:Nat→Prop} {w0:World} {F0:Nat→Nat} {st st':St} {a a':Act} {cf:Callee}
mutual
theorem zy1:∀ (p:PV) (v:Value),p.noPtr=true→Rd w Fr β p v→Rd w Fr β' p v
 | .unk,_,h,_=>by cases h
 | .flat u,v,_,k=>by simpa [Rd] using k
 | .slc n cs,v,h,k=>by
   simp only [Rd] at k ⊢
   obtain ⟨b,cap,h1,h2,h3⟩:=k
   refine ⟨b,cap,h1,h2,h3.imp id ?_⟩
   rintro ⟨g,o,vs,ha,hr,hs,ho⟩
   exact ⟨g,o,vs,ha,hr,zf0 cs vs h hs,ho⟩
 | .agg cs,v,h,k=>by
   simp only [Rd] at k ⊢
   obtain ⟨vs,h1,hs,ho⟩:=k
   exact ⟨vs,h1,zf0 cs vs h hs,ho⟩
 | .tup cs,v,h,k=>by
   simp only [Rd] at k ⊢
   obtain ⟨vs,h1,hs⟩:=k
   exact ⟨vs,h1,zf0 cs vs h hs⟩
 | .ptr b o,v,h,k=>by cases h
 | .elt cs,v,h,k=>by
   simp only [Rd] at k ⊢
   obtain ⟨g,o,vs,h1,hr,hs,ho⟩:=k
   exact ⟨g,o,vs,h1,hr,zf0 cs vs h hs,ho⟩
 | .clo f cs,v,h,k=>by cases h
 | .yld b,v,h,k=>by cases h
 | .bsl _ _ _,v,h,k=>by cases h
 | .lp _ _ _ _ _,v,h,k=>by cases h
theorem zf0:∀ (ps:List PV) (vs:List Value),zcb ps=true→Rds w Fr β ps vs→Rds w Fr β' ps vs
 | [],vs,_,k=>by simpa [Rds] using k
 | p::ps,vs,h,k=>by
   simp only [zcb,Bool.and_eq_true] at h
   simp only [Rds] at k ⊢
   obtain ⟨v,r,h1,h2,h3⟩:=k
   exact ⟨v,r,h1,zy1 p v h.1 h2,zf0 ps r h.2 h3⟩
end
theorem zxk:∀ (vs:List PV),zcb vs=true→(zd7 vs).noPtr=true
 | [],_=>rfl
 | [v],h=>by simpa [zcb,zd7] using h
 | v::u::r,h=>h
theorem zik {base:Nat} {w:World}:Marks [] base w []:=⟨[],List.nodup_nil,rfl,fun D h=>by cases h⟩
theorem zpw (w:World) (Fr:Nat→Nat):Rel P [] w.heap.size (zel w [] []) w Fr 0 (znp [] []) act0 w Fr [] :=
 ⟨fun i=>by simp [znp,look,Rd],rfl,zik,⟨rfl,fun b cs h=>by simp [znp] at h⟩,List.nodup_nil,(fun L h=>by cases h),(fun L h=>by cases h),(fun L h=>by cases h),(fun p h=>by cases h),(fun g h=>by
  rcases h with h | ⟨L,h,_⟩
  ·cases h
  ·cases h),fun _ _ _=>⟨rfl,rfl⟩,Nat.le_refl _,rfl,rfl,rfl⟩
theorem zfk {g:Nat}:¬ zel w [] [] g:=by
 rintro (h | ⟨L,h,_⟩)<;>cases h
theorem zb1 {L:Loc} (h:zah L=true):zay a w β L=zay act0 w β L:=by
 cases L with
 | slot i=>cases h
 | cell b j=>rfl
theorem zmn {L:Loc} (h:zah L=true) {oc:List Loc}:pvAt st L=pvAt (znp st.bx oc) L:=by
 cases L with
 | slot i=>cases h
 | cell b j=>rfl
theorem Rel.boxes (R:Rel P T base M w0 F0 nt st a w Fr β):Rel P [] w.heap.size (zel w β (st.ow.filter zah)) w Fr 0 (znp st.bx (st.ow.filter zah)) act0 w Fr β:=by
 have mem:∀ L,L∈st.ow.filter zah→L∈st.ow∧zah L=true:=fun L h=>by simpa using h
 refine ⟨fun i=>by simp [znp,look,Rd],rfl,zik,R.bx,R.nd,fun L hL=>?_,fun L hL L' hL' hne v v' g hv hv'=>?_,fun L hL v g hv=>?_,(fun p h=>by cases h),fun g hg=>.inr ?_,fun _ _ _=>⟨rfl,rfl⟩,Nat.le_refl _,rfl,rfl,rfl⟩
 ·obtain ⟨h1,h2⟩:=mem L hL
  obtain ⟨v,p,k1,k2,k3⟩:=R.own L h1
  exact ⟨v,p,by rw [← zb1 (a:=a) h2];exact k1,by rw [← zmn h2];exact k2,k3⟩
 ·obtain ⟨h1,h2⟩:=mem L hL
  obtain ⟨h1',h2'⟩:=mem L' hL'
  rw [← zb1 (a:=a) h2] at hv
  rw [← zb1 (a:=a) h2'] at hv'
  exact R.sep L h1 L' h1' hne v v' g hv hv'
 ·obtain ⟨h1,h2⟩:=mem L hL
  rw [← zb1 (a:=a) h2] at hv
  exact R.out L h1 v g hv
 ·exact hg
theorem zil {f:FuncId} (hf:zgq P f=true) {args:Array Value}:(callFunc f args).run P w=.ok (.enter f args) w:=by
 unfold zgq at hf
 split at hf
 ·rename_i fn hfn
  simp only [Bool.and_eq_true,bne_iff_ne,ne_eq] at hf
  obtain ⟨h1,h2⟩:=hf
  have h3:fn.body.isNone=false:=by cases h:fn.body<;>simp_all
  simp only [callFunc,Sem.run_bind]
  show (Result.andThen (.ok P w) _:Result Next)=_
  simp only [Result.andThen_ok,hfn,h3]
  rw [if_neg (by simpa using h1)]
  rfl
 ·cases hf
theorem Rel.addOwn (R:Rel P T base M w0 F0 nt st a w Fr β) {d:Nat} {p:PV} {v:Value} (hv:a.tmps.getD d undef=v) (hp:look st.sl d=p) (ho:OwnV P w Fr p v)
 (hb:∀ g,v.ownBlock=some g→(base≤g∨M g)∧g ∉ β∧∀ L∈st.ow,L≠.slot d→∀ u,zay a w β L=some u→u.ownBlock≠some g):Rel P T base M w0 F0 nt { st with ow:=.slot d::st.ow } a w Fr β:=by
 have hvd:zay a w β (.slot d)=some v:=by simp only [zay,hv]
 have hpv:∀ L,pvAt { st with ow:=.slot d::st.ow } L=pvAt st L:=fun L=>zr5 rfl rfl
 refine ⟨R.sl,R.nt,R.df,R.bx,R.nd,fun L hL=>?_,fun L hL L' hL' hne u u' g hu hu' hg hg'=>?_,fun L hL u g hu hg=>?_,R.al,fun g hg=>?_,R.old,R.ge,R.os,R.tape,R.output⟩
 ·rcases List.mem_cons.1 hL with rfl | hL
  ·exact ⟨v,p,hvd,by rw [hpv];simp only [pvAt,hp],ho⟩
  ·obtain ⟨u,q,k1,k2,k3⟩:=R.own L hL
   exact ⟨u,q,k1,by rw [hpv];exact k2,k3⟩
 ·by_cases e:L=.slot d
  ·subst e
   rw [hvd] at hu;cases hu
   rcases List.mem_cons.1 hL' with h | h
   ·exact hne h.symm
   ·exact (hb g hg).2.2 L' h (Ne.symm hne) u' hu' hg'
  ·have hL2:=(List.mem_cons.1 hL).resolve_left e
   by_cases e':L'=.slot d
   ·subst e'
    rw [hvd] at hu';cases hu'
    exact (hb g hg').2.2 L hL2 e u hu hg
   ·exact R.sep L hL2 L' ((List.mem_cons.1 hL').resolve_left e') hne u u' g hu hu' hg hg'
 ·by_cases e:L=.slot d
  ·subst e
   rw [hvd] at hu;cases hu
   exact (hb g hg).2.1
  ·exact R.out L ((List.mem_cons.1 hL).resolve_left e) u g hu hg
 ·rcases hg with hg | ⟨L,hL,u,hu,hg⟩
  ·exact R.may g (.inl hg)
  ·by_cases e:L=.slot d
   ·subst e
    rw [hvd] at hu;cases hu
    exact (hb g hg).1
   ·exact R.may g (.inr ⟨L,(List.mem_cons.1 hL).resolve_left e,u,hu,hg⟩)
theorem zxl {S:S0} {dst:Option Nat} {f:FuncId} {args:List PV} {vs':List PV} {os:Bool} {bx':zao} {oc':List Loc} {v:Value} (Q:Post P w Fr β (st.ow.filter zah) vs' os bx' oc' v w' Fr' β') (hs:callBx (fun _ _ _ _=>some (vs',os,bx',oc')) st dst f args=some st') (hd:∀ d,dst=some d→d<S.nt)
 (R:Rel P S.T S.base S.M S.w0 S.F0 S.nt st a w Fr β) (hl:Le S.sw S.sF S.sβ w Fr β) {K:Act→World→Prop} (hK:∀ a' w',Rl P S st' a' w'→K a' w'):K (a.put dst v) w':=by
 unfold callBx at hs
 ·simp only [Option.map_some,Option.some.injEq] at hs
  have hmem:∀ L,L∈st.ow.filter zah→L∈st.ow∧zah L=true:=fun L h=>by simpa using h
  have hmay:∀ g,zel w β (st.ow.filter zah) g→S.base≤g∨S.M g:=fun g hg=>R.may g (hg.imp id fun ⟨L,h1,v,h2,h3⟩=>⟨L,(hmem L h1).1,v,by rw [zb1 (hmem L h1).2];exact h2,h3⟩)
  have hslot:∀ L∈st.ow,zah L=false→∀ u g,zay a w β L=some u→u.ownBlock=some g→g<w.heap.size∧¬ zel w β (st.ow.filter zah) g:=fun L hL hc u g hu hg=>by
   obtain ⟨u',p,k1,k2,k3⟩:=R.own L hL
   rw [hu] at k1;cases k1
   refine ⟨k3.lt hg,?_⟩
   rintro (h | ⟨L',h1,u',h2,h3⟩)
   ·exact R.out L hL u g hu hg h
   ·obtain ⟨m1,m2⟩:=hmem L' h1
    rw [← zb1 (a:=a) m2] at h2
    exact R.sep L hL L' m1 (fun e=>by rw [e,m2] at hc;cases hc) u u' g hu h2 hg h3
  have hsl:∀ L,zah L=false→zay a w' β' L=zay a w β L:=fun L hc=>by
   cases L with
   | slot i=>rfl
   | cell b j=>cases hc
  have hocf:oc'.filter zah=oc':=List.filter_eq_self.2 Q.cells
  rw [hocf] at hs
  obtain ⟨stm,hstm⟩:∃ stm:St,stm={ st with bx:=bx',ow:=oc'++st.ow.filter (fun L=>!zah L),al:=st.al.filter fun p=>!zah p.2 }:=⟨_,rfl⟩
  have hmow:∀ L,L∈stm.ow→(L∈oc'∧zah L=true)∨(L∈st.ow∧zah L=false):=fun L hL=>by
   subst hstm
   rcases List.mem_append.1 hL with h | h
   ·exact .inl ⟨h,Q.cells L h⟩
   ·exact .inr (by simpa using h)
  have hcw:∀ L u,zah L=true→zay a w' β' L=some u→zay act0 w' β' L=some u:=fun L u hc h=>by rw [← zb1 (a:=a) hc];exact h
  have Rm:Rel P S.T S.base S.M S.w0 S.F0 S.nt stm a w' Fr' β':=by
   have hdf:Marks S.T S.base w' a.defers:=by
    obtain ⟨Ds,d1,d2,d3⟩:=R.df
    refine ⟨Ds,d1,d2,fun D hD=>⟨(d3 D hD).1,?_⟩⟩
    have hD2:=(d3 D hD).2
    rw [(Q.rel.old D (Array.getElem?_eq_some_iff.1 hD2).1 fun hm=>?_).1]
    ·exact hD2
    ·rcases hm with hm | ⟨L,hL,u,hu,hub⟩
     ·obtain ⟨ob,k1,k2⟩:=R.bx.at hm
      rw [hD2] at k1;cases k1
      exact k2 _ rfl
     ·obtain ⟨u',p,k1,_,n,cs,_,k2⟩:=R.own L (hmem L hL).1
      rw [zb1 (hmem L hL).2,hu] at k1;cases k1
      rcases k2 with rfl | ⟨g',cap,cur,e,sz,rfl,k3,_⟩
      ·cases hub
      ·cases hub;rw [hD2] at k3;cases k3
   refine ⟨fun i=>by subst hstm;exact (R.sl i).mono Q.le,R.nt,hdf,by subst hstm;exact Q.rel.bx,Q.rel.nd,fun L hL=>?_,fun L hL L' hL' hne u u' g hu hu' hg hg'=>?_,fun L hL u g hu hg=>?_,fun q hq=>?_,fun g hg=>?_,fun b hb hM=>?_,Nat.le_trans R.ge Q.rel.ge,Q.rel.os.trans R.os,Q.rel.tape.trans R.tape,Q.rel.output.trans R.output⟩
   ·rcases hmow L hL with ⟨h1,h2⟩ | ⟨h1,h2⟩
    ·obtain ⟨u,p,k1,k2,k3⟩:=Q.rel.own L h1
     refine ⟨u,p,by rw [zb1 h2];exact k1,?_,k3⟩
     subst hstm
     rw [zmn h2 (oc:=oc')];exact k2
    ·obtain ⟨u,p,k1,k2,k3⟩:=R.own L h1
     refine ⟨u,p,by rw [hsl L h2];exact k1,?_,k3.kept fun g hg=>?_⟩
     ·subst hstm
      cases L with
      | slot i=>exact k2
      | cell b j=>cases h2
     ·obtain ⟨m1,m2⟩:=hslot L h1 h2 u g k1 hg
      exact Q.rel.old g m1 m2
   ·rcases hmow L hL with ⟨h1,h2⟩ | ⟨h1,h2⟩
    ·rcases hmow L' hL' with ⟨h1',h2'⟩ | ⟨h1',h2'⟩
     ·exact Q.rel.sep L h1 L' h1' hne u u' g (hcw L u h2 hu) (hcw L' u' h2' hu') hg hg'
     ·rw [hsl L' h2'] at hu'
      obtain ⟨m1,m2⟩:=hslot L' h1' h2' u' g hu' hg'
      rcases Q.rel.may g (.inr ⟨L,h1,u,hcw L u h2 hu,hg⟩) with h | h
      ·omega
      ·exact m2 h
    ·rw [hsl L h2] at hu
     obtain ⟨m1,m2⟩:=hslot L h1 h2 u g hu hg
     rcases hmow L' hL' with ⟨h1',h2'⟩ | ⟨h1',h2'⟩
     ·rcases Q.rel.may g (.inr ⟨L',h1',u',hcw L' u' h2' hu',hg'⟩) with h | h
      ·omega
      ·exact m2 h
     ·rw [hsl L' h2'] at hu'
      exact R.sep L h1 L' h1' hne u u' g hu hu' hg hg'
   ·rcases hmow L hL with ⟨h1,h2⟩ | ⟨h1,h2⟩
    ·exact Q.rel.out L h1 u g (hcw L u h2 hu) hg
    ·rw [hsl L h2] at hu
     obtain ⟨m1,m2⟩:=hslot L h1 h2 u g hu hg
     intro hm
     rcases Q.rel.may g (.inl hm) with h | h
     ·omega
     ·exact m2 h
   ·have hq':q∈st.al∧zah q.2=false:=by subst hstm;simpa using hq
    rw [hsl _ hq'.2];exact R.al q hq'.1
   ·rcases hg with hg | ⟨L,hL,u,hu,hg⟩
    ·rcases Q.rel.may g (.inl hg) with h | h
     ·exact .inl (Nat.le_trans R.ge h)
     ·exact hmay g h
    ·rcases hmow L hL with ⟨h1,h2⟩ | ⟨h1,h2⟩
     ·rcases Q.rel.may g (.inr ⟨L,h1,u,hcw L u h2 hu,hg⟩) with h | h
      ·exact .inl (Nat.le_trans R.ge h)
      ·exact hmay g h
     ·rw [hsl L h2] at hu
      exact R.may g (.inr ⟨L,h1,u,hu,hg⟩)
   ·obtain ⟨m1,m2⟩:=Q.rel.old b (Nat.lt_of_lt_of_le hb R.ge) fun h=>by
     rcases hmay b h with h | h
     ·omega
     ·exact hM h
    obtain ⟨m3,m4⟩:=R.old b hb hM
    exact ⟨m1.trans m3,m2.trans m4⟩
  rw [← hstm] at hs
  cases dst with
  | none=>cases hs;exact hK _ _ ⟨Fr',β',Rm,hl.trans Q.le⟩
  | some d =>
    dsimp only at hs
    have R2:=Rm.put (hd d rfl) Q.rd
    have hda:d<a.tmps.size:=by rw [R.nt];exact hd d rfl
    split at hs
    ·rename_i hos
     cases hs
     obtain ⟨k1,k2⟩:=Q.own hos
     refine hK _ _ ⟨Fr',β',R2.addOwn (d:=d) (by rw [zew a d v d hda,if_pos rfl]) (by simp [St.put,za2]) k1 fun g hg=>?_,hl.trans Q.le⟩
     obtain ⟨m1,m2,m3⟩:=k2 g hg
     refine ⟨m1.elim (fun h=>.inl (Nat.le_trans R.ge h)) (fun h=>hmay g h),m2,fun L hL hne u hu=>?_⟩
     obtain ⟨n1,n2⟩:=zcc.1 hL
     rw [zd8 hda n2] at hu
     rcases hmow L n1 with ⟨h1,h2⟩ | ⟨h1,h2⟩
     ·exact m3 L h1 u (hcw L u h2 hu)
     ·intro e
      rw [hsl L h2] at hu
      obtain ⟨q1,q2⟩:=hslot L h1 h2 u g hu e
      rcases m1 with h | h
      ·omega
      ·exact q2 h
    ·cases hs
     exact hK _ _ ⟨Fr',β',R2,hl.trans Q.le⟩
theorem zto {Γ:Glob} (hcf:zbv P Γ cf) {S:S0} {dst:Option Nat} {f:FuncId} {args:List PV} {vs:List Value} (hs:callBx cf st dst f args=some st') (hd:∀ d,dst=some d→d<S.nt)
 (R:Rel P S.T S.base S.M S.w0 S.F0 S.nt st a w Fr β) (hl:Le S.sw S.sF S.sβ w Fr β) (hargs:Rds w Fr β args vs) (hg:Γ.G w) (hdis:∀ g,Γ.D g→g<S.base∧¬ S.M g) {K:Act→World→Prop} (hK:∀ a' w',Rl P S st' a' w'→K a' w') :
 Enters P f vs w fun e w'=>∃ v,e=.returned v∧K (a.put dst v) w':=by
 unfold callBx at hs
 ·have hs1:=hs
  obtain ⟨⟨vs',os,bx',oc'⟩,hc,hs⟩:=qm hs
  have hs0:callBx (fun _ _ _ _=>some (vs',os,bx',oc')) st dst f args=some st':=by unfold callBx;rw [hc] at hs1;exact hs1
  have hcall:=hcf f args st.bx (st.ow.filter zah) vs' os bx' oc' hc
  have hmem:∀ L,L∈st.ow.filter zah→L∈st.ow∧zah L=true:=fun L h=>by simpa using h
  have hmay:∀ g,zel w β (st.ow.filter zah) g→S.base≤g∨S.M g:=fun g hg=>R.may g (hg.imp id fun ⟨L,h1,v,h2,h3⟩=>⟨L,(hmem L h1).1,v,by rw [zb1 (hmem L h1).2];exact h2,h3⟩)
  refine (hcall w Fr β vs ⟨hg,hargs,R.boxes,fun L h=>(hmem L h).2,fun g hD hm=>?_⟩).mono fun e w' h=>?_
  ·obtain ⟨h1,h2⟩:=hdis g hD
   rcases hmay g hm with h | h
   ·omega
   ·exact h2 h
  obtain ⟨v,Fr',β',rfl,Q⟩:=h
  exact ⟨v,rfl,zxl Q hs0 hd R hl hK⟩
theorem yey {Γ:Glob} (hcf:zbv P Γ cf) {S:S0} {dst:Option Nat} {f:FuncId} {args:List PV} {vs:List Value} (hs:callSt cf st dst f args=some st') (hd:∀ d,dst=some d→d<S.nt)
 (R:Rel P S.T S.base S.M S.w0 S.F0 S.nt st a w Fr β) (hl:Le S.sw S.sF S.sβ w Fr β) (hargs:Rds w Fr β args vs) (hg:Γ.G w) (hdis:∀ g,Γ.D g→g<S.base∧¬ S.M g) {K:Act→World→Prop} (hK:∀ a' w',Rl P S st' a' w'→K a' w') :
 Enters P f vs w fun e w'=>∃ v,e=.returned v∧K (a.put dst v) w':=by
 unfold callSt at hs
 split at hs
 case isFalse=>exact zto hcf hs hd R hl hargs hg hdis hK
 rename_i hnp
 obtain ⟨⟨vs',os,bx',oc'⟩,hc,hs⟩:=qb hs
 dsimp only at hs
 split at hs
 case isFalse=>exact zto hcf hs hd R hl hargs hg hdis hK
 rename_i hnp'
 have hcall:=hcf f args [] [] vs' os bx' oc' hc
 refine (hcall w Fr [] vs ⟨hg,zf0 args vs hnp hargs,zpw w Fr,(fun L h=>by cases h),fun g _=>zfk⟩).mono fun e w' h=>?_
 obtain ⟨v,Fr',β',rfl,Q⟩:=h
 have hb:Below w.heap.size w w':=⟨Q.rel.os,Q.rel.tape,Q.rel.output,Q.rel.ge,fun k hk=>(Q.rel.old k hk zfk).1⟩
 have hf:∀ g,g<w.heap.size→Fr' g=Fr g:=fun g hg=>(Q.rel.old g hg zfk).2
 have hrd:Rd w' Fr' β (zd7 vs') v:=zy1 _ _ (zxk vs' hnp') Q.rd
 obtain ⟨R',hl'⟩:=R.grow hb hf
 refine ⟨v,rfl,?_⟩
 cases dst with
 | none=>cases hs;exact hK _ _ ⟨Fr',β,R',hl.trans hl'⟩
 | some d =>
   dsimp only at hs
   split at hs
   ·rename_i hos
    cases hs
    obtain ⟨k1,k2⟩:=Q.own hos
    exact hK _ _ ⟨Fr',β,R.putOwn hb hf (hd d rfl) hrd k1 (fun g hg=>((k2 g hg).1).resolve_right zfk),hl.trans hl'⟩
   ·cases hs
    exact hK _ _ ⟨Fr',β,R'.put (hd d rfl) hrd,hl.trans hl'⟩
theorem zly {l:Nat} {o:Obj} {b j:Nat} (h:b≠l):(w.putObj l o).cell? ⟨b,j,none⟩=w.cell? ⟨b,j,none⟩:=by
 simp only [World.cell?,World.putObj_heap_other h]
theorem Rel.setLp (R:Rel P T base M w0 F0 nt st a w Fr β) {b g:Nat} {f k f' k':Nat} {s s':LpS} {live live':List Nat} {snap snap':List PV} {r':Loop} {e0:Nat} (hb:st.bx[b]? =some (e0,[.lp f k s live snap])) (hg:β[b]? =some g)
 (h:Le w Fr β (w.putObj g (.loop r')) Fr β→LpR P (w.putObj g (.loop r')) Fr β f' k' s' live' snap' g) :
 Rel P T base M w0 F0 nt { st with bx:=st.bx.set b (0,[.lp f' k' s' live' snap']) } a (w.putObj g (.loop r')) Fr β∧Le w Fr β (w.putObj g (.loop r')) Fr β:=by
 have hgm:g∈β:=List.mem_of_getElem? hg
 have hgl:g<w.heap.size:=R.bx.lt hgm
 obtain ⟨g0,b1,hF,hat⟩:=R.bx.2 b _ hb
 rw [hg] at b1;cases b1
 have hloop:∃ r,w.heap[g]? =some (.loop r):=by
  rcases hat with ⟨vs,e,_,h2,_,_⟩ | ⟨_,_,_,_,_,_,r,h1,_⟩
  ·simp only [Rds] at h2;obtain ⟨_,_,_,h2,_⟩:=h2;simp only [Rd] at h2
  ·exact ⟨r,h1⟩
 obtain ⟨r,hr⟩:=hloop
 have hoth:∀ k,k≠g→(w.putObj g (.loop r')).heap[k]? =w.heap[k]? :=fun k hk=>World.putObj_heap_other hk
 have hl:Le w Fr β (w.putObj g (.loop r')) Fr β:=⟨by simp,fun _ _=>Nat.le_refl _,fun k j hk hj=>zly fun e=>by rw [e,hF] at hj;omega,fun _ _ h=>h,fun k x hk=>by
  by_cases e:k=g
  ·subst e;exact ⟨r',World.putObj_heap_same hgl⟩
  ·exact ⟨x,(hoth k e).trans hk⟩⟩
 have hval:∀ L v,zay a w β L=some v→zay a (w.putObj g (.loop r')) β L=some v:=fun L v hv=>by
  cases L with
  | slot i=>exact hv
  | cell b' j =>
    simp only [zay] at hv ⊢
    obtain ⟨g',h1,h2⟩:=qb hv
    rw [h1,Option.bind_some,zly]
    ·exact h2
    ·rintro rfl;simp [World.cell?,hr] at h2
 have hpv:∀ L∈st.ow,∀ v,zay a w β L=some v→∀ p,pvAt st L=some p→pvAt { st with bx:=st.bx.set b (0,[.lp f' k' s' live' snap']) } L=some p:=fun L _ v hv p hp=>by
  cases L with
  | slot i=>exact hp
  | cell b' j =>
    have hne:b'≠b:=by
     rintro rfl
     simp only [zay,hg,Option.bind_some] at hv
     simp [World.cell?,hr] at hv
    simp only [pvAt] at hp ⊢
    rw [List.getElem?_set_ne (Ne.symm hne)];exact hp
 refine ⟨R.next hl (fun i=>(R.sl i).mono hl) R.nt rfl ⟨by simp [R.bx.1],fun b' cs' hcs'=>?_⟩ R.nd (fun g h=>.inl h) some (fun L hL=>?_) (fun L _ L' _ hne L0 h h'=>hne (by cases h;cases h';rfl)) (fun L _ L' _ _ h=>by cases h) (fun q hq=>hval _ _ (R.al q hq)) (fun k _ hk _=>⟨hoth k fun e=>hk (e ▸ hgm),rfl⟩) rfl rfl rfl,hl⟩
 ·dsimp only at hcs'
  by_cases he:b'=b
  ·subst he
   rw [List.getElem?_set_self (qg hb).1] at hcs'
   cases hcs'
   exact ⟨g,hg,hF,.inr ⟨_,_,_,_,_,rfl,h hl⟩⟩
  ·rw [List.getElem?_set_ne (Ne.symm he)] at hcs'
   obtain ⟨g',k1,k5,k2⟩:=R.bx.2 b' cs' hcs'
   have hne:g'≠g:=fun e=>by
    subst e
    exact he ((List.getElem?_inj (qg k1).1 R.nd).1 (k1.trans hg.symm))
   exact ⟨g',k1,k5,k2.kept hl (hoth g' hne)⟩
 ·obtain ⟨u,q,k1,k2,k3⟩:=R.own L hL
  refine ⟨u,q,hval L u k1,hpv L hL u k1 q k2,k3.kept fun k hk=>⟨hoth k fun e=>?_,rfl⟩,fun k hk=>.inr ⟨L,hL,rfl,u,k1,hk⟩⟩
  exact R.out L hL u k k1 hk (e ▸ hgm)
theorem Rel.takeMark {D:Nat} {Ds0:List Nat} (R:Rel P T base M w0 F0 nt st a w Fr β) (ha:a.defers=mark D::(Ds0.map mark++T)) :
 w.heap[D]? =some (.deferred (some []))∧Rel P T base M w0 F0 nt st { a with defers:=Ds0.map mark++T } (w.putObj D (.deferred none)) Fr β∧Le w Fr β (w.putObj D (.deferred none)) Fr β:=by
 obtain ⟨Ds,d1,d2,d3⟩:=R.df
 rw [ha] at d2
 obtain rfl:D::Ds0=Ds:=zml d2
 obtain ⟨ds,hds⟩:∃ ds,Ds0.map mark++T=ds:=⟨_,rfl⟩
 rw [hds]
 have e2:=hds.symm
 ·have Ds:=Ds0
  obtain ⟨hbD,hD⟩:=d3 D (by simp)
  have hDl:=(Array.getElem?_eq_some_iff.1 hD).1
  have hoth:∀ k,k≠D→(w.putObj D (.deferred none)).heap[k]? =w.heap[k]? :=fun k hk=>World.putObj_heap_other hk
  have hβ:∀ g∈β,g≠D:=fun g hg e=>by
   obtain ⟨o,k1,k2⟩:=R.bx.at hg
   rw [e,hD] at k1;cases k1
   exact k2 _ rfl
  have hcell:∀ g j,(w.putObj D (.deferred none)).cell? ⟨g,j,none⟩=w.cell? ⟨g,j,none⟩:=fun g j=>by
   by_cases e:g=D
   ·subst e
    simp [World.cell?,hD,World.putObj_heap_same hDl]
   ·exact zly e
  have hl:Le w Fr β (w.putObj D (.deferred none)) Fr β:=⟨by simp,fun _ _=>Nat.le_refl _,fun k j _ _=>hcell k j,fun _ _ h=>h,fun k x hk=>⟨x,(hoth k fun e=>by rw [e,hD] at hk;cases hk).trans hk⟩⟩
  have hval:∀ L,zay { a with defers:=ds } (w.putObj D (.deferred none)) β L=zay a w β L:=fun L=>by
   cases L with
   | slot i=>rfl
   | cell b j =>
     simp only [zay]
     cases β[b]? with
     | none=>rfl
     | some g=>exact hcell g j
  refine ⟨hD,⟨fun i=>(R.sl i).mono hl,R.nt,⟨Ds0,(List.nodup_cons.1 d1).2,e2,fun D' hD'=>⟨(d3 D' (by simp [hD'])).1,(hoth D' fun e=>?_).trans (d3 D' (by simp [hD'])).2⟩⟩,R.bx.kept hl fun g hg=>⟨hoth g (hβ g hg),rfl⟩,R.nd,fun L hL=>?_,fun L hL L' hL' hne v v' g=>by rw [hval,hval];exact R.sep L hL L' hL' hne v v' g,fun L hL v g=>by rw [hval];exact R.out L hL v g,fun q hq=>by rw [hval];exact R.al q hq,
   fun g hg=>R.may g (hg.imp id fun ⟨L,hL,v,k1,k2⟩=>⟨L,hL,v,by rw [← hval];exact k1,k2⟩),fun b hb hM=>?_,by simpa using R.ge,R.os,R.tape,R.output⟩,hl⟩
  ·exact (List.nodup_cons.1 d1).1 (e ▸ hD')
  ·obtain ⟨v,p,k1,k2,k3⟩:=R.own L hL
   refine ⟨v,p,by rw [hval];exact k1,k2,k3.kept fun g hg=>⟨hoth g fun e=>?_,rfl⟩⟩
   obtain ⟨n,cs,_,k4⟩:=k3
   rcases k4 with rfl | ⟨g',cap,cur,e',sz,rfl,k5,_⟩
   ·cases hg
   ·cases hg;have e9:g'=D:=e;rw [e9,hD] at k5;cases k5
  ·rw [hoth b (by omega)];exact R.old b hb hM
end
end Nun
namespace Nun
open Go Go.RowKit
def z89 (P:Program) (ali:List Nat) (o:Oper):Option COp:=match o.dst,o.op with
 | some d,.move (.tmp s)=>if d∈ali then some (.mvA s) else none
 | some d,.load t x=>if d∈ali∧zdi P t=some false∧szOf P t=some 1 then (coX x).map .loadA else none
 | _,_=>none
def zog (P:Program):Op→Option COp
 | .call { callee:=.value (.func f),args,.. }=>if f=yldF then none else (coXs args).map fun xs=>.call f xs
 | .call { callee:=.value (.tmp t),args,.. }=>(coXs args).map fun xs=>.callv (.t t) xs
 | _=>none
def yki:COp:=.nilc (.c .unk)
def coOp (P:Program) (ali:List Nat) (o:Oper):Option COp:=match z89 P ali o with
 | some c=>some c
 | none=>match zce P o.op with
   | some c=>some c
   | none=>match zxj P o.op with
     | some c=>some c
     | none=>match zog P o.op with
       | some c=>some c
       | none=>some yki
def coG (ops:Array Oper):Option (Nat × Bool)→Option (Option (Nat × Bool))
 | none=>some none
 | some (j,want)=>((ops[j]?).bind (·.dst)).map fun s=>some (s,want)
def zgz (P:Program) (nt:Nat) (ops:Array Oper) (ali:List Nat) (o:Oper):Option COper :=
 if o.dst.all (·<nt) then (coOp P ali o).bind fun c=>(coG ops o.guard).map fun g=>⟨o.dst,g,c⟩ else none
section
variable {P:Program} {w w':World} {r:Option Nat} {Fr Fr':Nat→Nat} {β β':List Nat} {T:List Deferred} {base nt:Nat} {M:Nat→Prop} {w0:World} {F0:Nat→Nat} {st st':St} {a a':Act} {cf:Callee} {Γ:Glob} {S:S0}
structure Good (Γ:Glob) (S:S0):Prop where
 g:Γ.G S.w0
 dis:∀ g,Γ.D g→g<S.base∧¬ S.M g
theorem Good.at (h:Good Γ S) (R:Rel P S.T S.base S.M S.w0 S.F0 S.nt st a w Fr β):Γ.G w:=Γ.keep _ _ h.g fun g hg=>(R.old g (h.dis g hg).1 (h.dis g hg).2).1
theorem z00 {o:Oper} {t:TypeId} {x:Operand} {y:X} (ho:o.op=.load t x) (hg:zdi P t=some false) (hn:szOf P t=some 1) (hy:coX x=some y) (hs:zaa cf st o.dst (.loadA y)=some st') (hd:∀ d,o.dst=some d→d<S.nt) (hr:Rl P S st a w) {K:Act→World→Prop} {Q:Exit→Act→World→Prop}
 (hK:∀ a' w',Rl P S st' a' w'→K a' w'):o.wpIn (fw r) 0 P a w K Q:=by
 obtain ⟨Fr,β,R,hl⟩:=hr
 simp only [zaa] at hs
 obtain ⟨d,hdst,hs2⟩:=qb hs
 clear hs
 have hx:=zbl R.sl hy
 split at hs2
 ·rename_i b off e1
  rw [e1] at hx
  simp only [Rd] at hx
  obtain ⟨gb,hgb,hx⟩:=hx
  obtain ⟨p,hp,rfl⟩:=qm hs2
  obtain ⟨cs,hcs,hp⟩:=qb hp
  obtain ⟨hcs,_,g',vs,e,b1,b2,b3,b4,b5,_⟩:=R.bx.cells hcs
  rw [hgb] at b1;cases b1
  obtain ⟨v,k1,k2⟩:=b3.get off p hp
  have hcell:w.cell? ⟨gb,off,none⟩=some v:=by
   rw [cell_of_row _ _ _ _ _ _ b2];simpa using k1
  have hrun:(execOp a.eval o).run P w=.ok (.value v) w:=by
   have h9:=ziz (vs:=[v]) hg hn rfl (w:=w) (b:=gb) (o:=off) (fun j u hj=>by
    match j,hj with
    | 0,hj=>simp at hj;subst hj;exact hcell) (.inr rfl)
   unfold execOp
   rw [ho]
   show (do pure (Next.value (← Instr.loadAt t (a.eval x))):Sem Next).run P w=_
   simp only [Instr.loadAt,Sem.run_bind,hx,Instr.sureAddr,Sem.run_pure,Result.andThen_ok,h9]
   rfl
  refine zcx hrun ?_
  rw [hdst]
  refine hK _ _ ⟨Fr,β,R.putAl (hd d hdst) k2 rfl ?_,hl⟩
  simp only [zay,hgb,Option.bind_some];exact hcell
 ·cases hs2
theorem z01 {o:Oper} {t:TypeId} {x:Operand} {y:X} (ho:o.op=.load t x) (hg:zdi P t=some false) (hn:szOf P t=some 1) (hy:coX x=some y) (hs:zaa cf st o.dst (.loadM y)=some st') (hd:∀ d,o.dst=some d→d<S.nt) (hr:Rl P S st a w) {K:Act→World→Prop} {Q:Exit→Act→World→Prop}
 (hK:∀ a' w',Rl P S st' a' w'→K a' w'):o.wpIn (fw r) 0 P a w K Q:=by
 obtain ⟨Fr,β,R,hl⟩:=hr
 simp only [zaa] at hs
 obtain ⟨d,hdst,hs2⟩:=qb hs
 clear hs
 have hx:=zbl R.sl hy
 split at hs2
 case h_2=>cases hs2
 rename_i b off e1
 rw [e1] at hx
 simp only [Rd] at hx
 obtain ⟨gb,hgb,hx⟩:=hx
 obtain ⟨p,hp,hs2⟩:=qb hs2
 split at hs2
 case isFalse=>cases hs2
 rename_i hown
 cases hs2
 obtain ⟨cs,hcs,hp⟩:=qb hp
 obtain ⟨hcs,_,g',vs,e,b1,b2,b3,b4,b5,_⟩:=R.bx.cells hcs
 rw [hgb] at b1;cases b1
 obtain ⟨v,k1,k2⟩:=b3.get off p hp
 have hcell:w.cell? ⟨gb,off,none⟩=some v:=by
  rw [cell_of_row _ _ _ _ _ _ b2];simpa using k1
 have hrun:(execOp a.eval o).run P w=.ok (.value v) w:=by
  have h9:=ziz (vs:=[v]) hg hn rfl (w:=w) (b:=gb) (o:=off) (fun j u hj=>by
   match j,hj with
   | 0,hj=>simp at hj;subst hj;exact hcell) (.inr rfl)
  unfold execOp
  rw [ho]
  show (do pure (Next.value (← Instr.loadAt t (a.eval x))):Sem Next).run P w=_
  simp only [Instr.loadAt,Sem.run_bind,hx,Instr.sureAddr,Sem.run_pure,Result.andThen_ok,h9]
  rfl
 refine zcx hrun ?_
 rw [hdst]
 have hdn:=hd d hdst
 have hda:d<a.tmps.size:=by rw [R.nt];exact hdn
 have R2:=R.put hdn (d:=d) k2
 have hvc:zay a w β (.cell b off)=some v:=by simp only [zay,hgb,Option.bind_some];exact hcell
 have hvp:∀ L,L∈zag d st.ow→zay (a.put (some d) v) w β L=zay a w β L:=fun L hL=>zd8 hda (zcc.1 hL).2
 have R3:Rel P S.T S.base S.M S.w0 S.F0 S.nt { (st.put d p) with ow:=(zag d st.ow).filter (·≠.cell b off),al:=[] } (a.put (some d) v) w Fr β :=
  ⟨R2.sl,R2.nt,R2.df,R2.bx,R2.nd,fun L hL=>R2.own L (List.mem_filter.1 hL).1,fun L hL L' hL'=>R2.sep L (List.mem_filter.1 hL).1 L' (List.mem_filter.1 hL').1,fun L hL=>R2.out L (List.mem_filter.1 hL).1,(fun q hq=>by cases hq),fun g hg=>R2.may g (hg.imp id fun ⟨L,hL,h⟩=>⟨L,(List.mem_filter.1 hL).1,h⟩),R2.old,R2.ge,R2.os,R2.tape,R2.output⟩
 obtain ⟨v',p',m1,m2,m3⟩:=R.own _ hown
 rw [hvc] at m1;cases m1
 simp only [pvAt,hcs,Option.bind_some,hp,Option.some.injEq] at m2
 subst m2
 refine hK _ _ ⟨Fr,β,R3.addOwn (d:=d) (by rw [zew a d v d hda,if_pos rfl]) (by simp [St.put,za2]) m3 fun g hgo=>?_,hl⟩
 refine ⟨R.may g (.inr ⟨_,hown,_,hvc,hgo⟩),R.out _ hown _ g hvc hgo,fun L hL hne u hu e=>?_⟩
 obtain ⟨n1,n2⟩:=List.mem_filter.1 hL
 have n3:L≠.cell b off:=by simpa using n2
 rw [hvp L n1] at hu
 exact R.sep _ hown L (zcc.1 n1).1 (Ne.symm n3) _ u g hvc hu hgo e
theorem z9a {o:Oper} {s:Nat} (ho:o.op=.move (.tmp s)) (hs:zaa cf st o.dst (.mvA s)=some st') (hd:∀ d,o.dst=some d→d<S.nt) (hr:Rl P S st a w) {K:Act→World→Prop} {Q:Exit→Act→World→Prop}
 (hK:∀ a' w',Rl P S st' a' w'→K a' w'):o.wpIn (fw r) 0 P a w K Q:=by
 obtain ⟨Fr,β,R,hl⟩:=hr
 simp only [zaa] at hs
 obtain ⟨d,hdst,hs2⟩:=qb hs
 clear hs
 split at hs2
 ·cases hs2
 ·rename_i hsd
  cases hs2
  have hrun:(execOp a.eval o).run P w=.ok (.value (a.tmps.getD s undef)) w:=by
   unfold execOp;rw [ho];rfl
  refine zcx hrun ?_
  rw [hdst]
  exact hK _ _ ⟨Fr,β,R.putAl (hd d hdst) (R.sl s) (by simp [ment];exact fun e=>hsd e) rfl,hl⟩
theorem z9b {a:Act} {sl:List (Nat × PV)} (h:∀ i,Rd w Fr β (look sl i) (a.tmps.getD i undef)) {l:Array Operand} {ys:List X} (hx:coXs l=some ys):Rds w Fr β (ys.map (·.ev sl)) (l.map a.eval).toList:=by
 rw [Array.toList_map];exact zxh h hx
theorem zu3:∀ {ys:List X} {sl:List (Nat × PV)} {vs:List Value},Rds w Fr β (ys.map (·.ev sl)) vs→Rds w Fr β (ys.map fun x=>(x.ev sl).weak) vs
 | [],_,_,h=>h
 | y::ys,sl,vs,h=>by
   simp only [List.map_cons,Rds] at h ⊢
   obtain ⟨v,r,h1,h2,h3⟩:=h
   exact ⟨v,r,h1,Rd.weak _ _ h2,zu3 h3⟩
theorem zj1 {a:Act} {sl:List (Nat × PV)} (h:∀ i,Rd w Fr β (look sl i) (a.tmps.getD i undef)) {l:Array Operand} {ys:List X} (hx:coXs l=some ys):Rds w Fr β (ys.map fun x=>(x.ev sl).weak) (l.map a.eval).toList:=zu3 (z9b h hx)
theorem z3f (hcf:zbv P Γ cf) (hS:Good Γ S) {o:Oper} {c:COp} (hc:zog P o.op=some c) (hs:zaa cf st o.dst c=some st') (hd:∀ d,o.dst=some d→d<S.nt) (hr:Rl P S st a w) {K:Act→World→Prop} {Q:Exit→Act→World→Prop}
 (hK:∀ a' w',Rl P S st' a' w'→K a' w'):o.wpIn (fw r) 0 P a w K Q:=by
 obtain ⟨Fr,β,R,hl⟩:=hr
 obtain ⟨dst,op,ty,pos,after,guard⟩:=o
 dsimp only at hc hs hd
 have fin:∀ (f:FuncId) (args:List PV) (vs:List Value),f≠yldF→callSt cf st dst f args=some st'→Rds w Fr β args vs→(execOp a.eval ⟨dst,op,ty,pos,after,guard⟩).run P w=(callFunc f vs.toArray).run P w→Oper.wpIn (fw r) 0 P ⟨dst,op,ty,pos,after,guard⟩ a w K Q:=fun f args vs hne h1 h2 h3=>by
  have hen:=yey hcf h1 hd R hl h2 (hS.at R) hS.dis hK
  unfold Enters at hen
  rw [if_neg hne] at hen
  obtain ⟨he,hcall⟩:=hen
  have hx:(execOp a.eval ⟨dst,op,ty,pos,after,guard⟩).run P w=.ok (.enter f vs.toArray) w:=by rw [h3,zil he]
  refine ⟨fun _ _=>trivial,?_⟩
  rw [Oper.semAt_eq _ _ _ fun c hc=>by obtain ⟨d,hd⟩:=zmm hc hx;cases hd]
  rw [hx]
  refine ⟨(fun h=>by cases h),zo3.2 (hcall.mono fun e w' h=>?_)⟩
  obtain ⟨v,rfl,h⟩:=h
  exact h
 cases op with
 | call cl =>
   obtain ⟨callee,args,ats⟩:=cl
   cases callee with
   | invoke r m=>cases hc
   | builtin b=>cases hc
   | value f =>
     cases f with
     | const v=>cases hc
     | global g=>cases hc
     | func f =>
       simp only [zog] at hc
       split at hc
       ·cases hc
       rename_i hne
       obtain ⟨xs,hx,rfl⟩:=qm hc
       refine fin f _ (args.map a.eval).toList hne hs (zj1 R.sl hx) ?_
       show (do let d ← resolve a.eval ⟨.value (.func f),args,ats⟩ ty;invoke d.target d.args:Sem Next).run P w=_
       simp only [resolve,Deferred.ofValue,Act.eval,Sem.run_bind,Sem.run_pure,Result.andThen_ok,invoke]
       congr 2
       apply Array.ext';simp
     | tmp t =>
       obtain ⟨xs,hx,rfl⟩:=qm hc
       simp only [zaa] at hs
       split at hs
       ·rename_i f caps e1
        split at hs
        ·cases hs
        rename_i hne
        have hf:=R.sl t
        have e1':look st.sl t=.clo f caps:=e1
        rw [e1'] at hf
        simp only [Rd] at hf
        obtain ⟨cvs,hfv,hcr⟩:=hf
        refine fin f _ ((args.map a.eval).toList++cvs) hne hs ((zj1 R.sl hx).append hcr) ?_
        show (do let d ← resolve a.eval ⟨.value (.tmp t),args,ats⟩ ty;invoke d.target d.args:Sem Next).run P w=_
        have:a.eval (.tmp t)=.func (.func f) #[] cvs.toArray:=hfv
        simp only [resolve,this,Deferred.ofValue,Sem.run_bind,Sem.run_pure,Result.andThen_ok,invoke]
        congr 2
        apply Array.ext';simp
       ·rename_i b e1
        have hf:=R.sl t
        have e1':look st.sl t=.yld b:=e1
        rw [e1'] at hf
        have hf0:=hf
        simp only [Rd] at hf
        obtain ⟨g,hg,hfv⟩:=hf
        have hargs:Rds w Fr β (.yld b::xs.map fun x=>(x.ev st.sl).weak) (.func (.yield g) #[] #[]::(args.map a.eval).toList):=by
         simp only [Rds]
         exact ⟨_,_,rfl,by simp only [Rd];exact ⟨g,hg,rfl⟩,zj1 R.sl hx⟩
        have hen:=zto hcf hs hd R hl hargs (hS.at R) hS.dis hK
        unfold Enters at hen
        rw [if_pos rfl] at hen
        obtain ⟨l,az,rc,h1,h2,h3,h4⟩:=hen
        cases h1
        have hx:(execOp a.eval ⟨dst,.call ⟨.value (.tmp t),args,ats⟩,ty,pos,after,guard⟩).run P w=.ok (.round g rc.fn ((rc.params.zip (args.map a.eval).toList.toArray).foldl (fun tmps (t,a)=>tmps.setIfInBounds t a) rc.tmps) rc.assign rc.body) w:=by
         rw [← run_yield h2 (by simpa using h3)]
         show (do let d ← resolve a.eval ⟨.value (.tmp t),args,ats⟩ ty;invoke d.target d.args:Sem Next).run P w=_
         have:a.eval (.tmp t)=.func (.yield g) #[] #[]:=hfv
         simp only [resolve,this,Deferred.ofValue,Sem.run_bind,Sem.run_pure,Result.andThen_ok,invoke]
         congr 2
         apply Array.ext';simp
        refine ⟨fun _ _=>trivial,?_⟩
        rw [Oper.semAt_eq _ _ _ fun c hc=>by obtain ⟨d,hd⟩:=zmm hc hx;cases hd]
        rw [hx]
        refine ⟨(fun h=>by cases h),RoundIn.mono (R:=fun e w'=>∃ v,e=.returned v∧K (a.put dst v) w') h4 fun e w' h=>?_⟩
        obtain ⟨v,rfl,h⟩:=h
        exact h
       ·cases hs
 | _=>cases hc
theorem yez (hcf:zbv P Γ cf) (hS:Good Γ S) {ali:List Nat} {o:Oper} {c:COp} (hc:coOp P ali o=some c) (hs:zaa cf st o.dst c=some st') (hd:∀ d,o.dst=some d→d<S.nt) (hr:Rl P S st a w) {K:Act→World→Prop} {Q:Exit→Act→World→Prop}
 (hK:∀ a' w',Rl P S st' a' w'→K a' w'):o.wpIn (fw r) 0 P a w K Q:=by
 unfold coOp at hc
 split at hc
 ·rename_i c' h1
  cases hc
  unfold z89 at h1
  split at h1
  ·rename_i d s e1 e2
   split at h1
   ·cases h1;exact z9a e2 hs hd hr hK
   ·cases h1
  ·rename_i d t x e1 e2
   split at h1
   ·rename_i hcond
    obtain ⟨y,hy,rfl⟩:=qm h1
    exact z00 e2 hcond.2.1 hcond.2.2 hy hs hd hr hK
   ·cases h1
  ·cases h1
 ·split at hc
  ·rename_i c' h1;cases hc;exact zpv h1 hs hd hr hK
  ·split at hc
   ·rename_i c' h1;cases hc;exact z88 h1 hs hd hr hK
   ·split at hc
    ·rename_i c' h1;cases hc;exact z3f hcf hS h1 hs hd hr hK
    ·cases hc;simp [zaa,yki,zar,X.ev] at hs
theorem zmo {ops:Array Oper} {o:Oper} {g:Option (Nat × Bool)} {b:Bool} (hg:coG ops o.guard=some g) (hb:zbp st g=some b) (hr:Rl P S st a w):Region.wanted o (yielded ops a.tmps)=b:=by
 obtain ⟨Fr,β,R,hl⟩:=hr
 unfold coG at hg
 unfold Region.wanted
 split at hg
 ·rename_i e;cases hg;rw [e];cases hb;rfl
 ·rename_i j want e
  rw [e]
  obtain ⟨s,hs,rfl⟩:=qm hg
  dsimp only
  have hx:=R.sl s
  unfold zbp at hb
  dsimp only at hb
  have hy:yielded ops a.tmps j=match a.tmps[s]? with | some (.bool b)=>some b | _=>none:=by
   unfold yielded;rw [hs];rfl
  split at hb
  ·rename_i t e1
   cases hb
   rw [e1] at hx
   obtain ⟨hx,_⟩:=zbe hx
   have:a.tmps[s]? =some (.bool t):=by
    rw [Array.getD_eq_getD_getElem?] at hx
    cases h:a.tmps[s]? with
    | none=>rw [h] at hx;cases hx
    | some u=>rw [h] at hx;simp at hx;rw [hx]
   rw [hy,this]
   cases t<;>cases want<;>rfl
  ·rename_i e1
   cases hb
   rw [e1] at hx
   simp only [Rd,Rds] at hx
   obtain ⟨vs,hx,rfl⟩:=hx
   rw [hy]
   rw [Array.getD_eq_getD_getElem?] at hx
   cases h:a.tmps[s]? with
   | none=>rfl
   | some u=>rw [h] at hx;simp at hx;rw [hx];rfl
  ·cases hb
theorem zpx (hcf:zbv P Γ cf) (hS:Good Γ S) {ops:Array Oper} {ali:List Nat} {o:Oper} {c:COper} (hc:zgz P S.nt ops ali o=some c) (hs:stepG cf st c=some st') (hr:Rl P S st a w) {K:Act→World→Prop} {Q:Exit→Act→World→Prop}
 (hK:∀ a' w',Rl P S st' a' w'→K a' w'):if Region.wanted o (yielded ops a.tmps) then o.wpIn (fw r) 0 P a w K Q else (∀ f,o.about P w a.eval=some f→(fw r).fn f)∧K (a.put o.dst undef) w:=by
 unfold zgz at hc
 split at hc
 case isFalse=>cases hc
 rename_i hd
 obtain ⟨cc,h1,hc⟩:=qb hc
 obtain ⟨g,h2,rfl⟩:=qm hc
 unfold stepG at hs
 obtain ⟨b,hb,hs⟩:=qb hs
 rw [zmo h2 hb hr]
 have hd':∀ d,o.dst=some d→d<S.nt:=fun d h=>by rw [h] at hd;simpa using hd
 cases b with
 | true=>exact yez hcf hS h1 hs hd' hr hK
 | false =>
   dsimp only at hs
   simp only [Bool.false_eq_true,if_false] at hs ⊢
   cases hs
   obtain ⟨Fr,β,R,hl⟩:=hr
   refine ⟨fun _ _=>trivial,hK _ _ ?_⟩
   cases hdst:o.dst with
   | none=>exact ⟨Fr,β,R,hl⟩
   | some d=>exact ⟨Fr,β,R.put (hd' d hdst) (by simp only [Rd,Rds];exact ⟨[],rfl,rfl⟩),hl⟩
def cpO (o:Oper) (c:COper):COper:=match o.op with
 | .assign x=>(match coX x with | some y=>{ c with op:=.mv y } | none=>c)
 | _=>c
def CoR (P:Program) (nt:Nat) (ops:Array Oper) (ali:List Nat) (o:Oper) (c:COper):Prop :=
 zgz P nt ops ali o=some c∨(∃ y,c.op=.loadM y∧zgz P nt ops ali o=some { c with op:=.loadA y })∨∃ x y,o.op=.assign x∧coX x=some y∧c.op=.mv y∧c.dst=o.dst∧coG ops o.guard=some c.g∧o.dst.all (·<nt)=true
theorem ykj {nt:Nat} {ops:Array Oper} {ali:List Nat} {o:Oper} {c:COper} (h:zgz P nt ops ali o=some c):CoR P nt ops ali o (cpO o c):=by
 unfold cpO
 split
 ·rename_i x e
  split
  ·rename_i y e2
   right
   unfold zgz at h
   split at h
   ·rename_i hd
    obtain ⟨cc,h1,h⟩:=qb h
    obtain ⟨g,h2,rfl⟩:=qm h
    right;exact ⟨x,y,e,e2,rfl,rfl,h2,hd⟩
   ·cases h
  ·exact .inl h
 ·exact .inl h
theorem z3g {op:Op} {y:X} (h1:zxj P op=some (.loadA y)):False:=by
 unfold zxj at h1
 split at h1
 ·obtain ⟨y,_,h⟩:=qm h1;cases h
 ·obtain ⟨_,_,h1⟩:=qb h1
  obtain ⟨y,_,h⟩:=qm h1;cases h
 ·split at h1
  ·obtain ⟨_,_,h1⟩:=qb h1
   split at h1
   ·obtain ⟨_,_,h1⟩:=qb h1
    split at h1
    ·obtain ⟨y,_,h⟩:=qm h1;cases h
    ·cases h1
   ·cases h1
  ·cases h1
 ·obtain ⟨_,_,h1⟩:=qb h1
  split at h1
  ·split at h1<;>cases h1
  ·cases h1
 ·obtain ⟨_,_,h1⟩:=qb h1
  obtain ⟨_,_,h1⟩:=qb h1
  split at h1
  ·obtain ⟨y,_,h⟩:=qm h1;cases h
  ·cases h1
 ·obtain ⟨_,_,h1⟩:=qb h1
  obtain ⟨_,_,h1⟩:=qb h1
  obtain ⟨_,_,h1⟩:=qb h1
  split at h1<;>cases h1
 ·split at h1
  ·split at h1
   ·obtain ⟨_,_,h1⟩:=qb h1
    split at h1
    ·obtain ⟨_,_,h1⟩:=qb h1
     obtain ⟨y,_,h⟩:=qm h1;cases h
    ·cases h1
   ·obtain ⟨_,_,h1⟩:=qb h1
    split at h1
    ·obtain ⟨_,_,h1⟩:=qb h1
     obtain ⟨y,_,h⟩:=qm h1;cases h
    ·cases h1
   ·cases h1
  ·cases h1
 ·cases h1
theorem z02 {op:Op} {y:X} (h1:zog P op=some (.loadA y)):False:=by
 unfold zog at h1
 split at h1
 ·split at h1
  ·cases h1
  ·obtain ⟨_,_,h⟩:=qm h1;cases h
 ·obtain ⟨_,_,h⟩:=qm h1;cases h
 ·cases h1
theorem zkv (hcf:zbv P Γ cf) (hS:Good Γ S) {ops:Array Oper} {ali:List Nat} {o:Oper} {c:COper} (hc:CoR P S.nt ops ali o c) (hs:stepG cf st c=some st') (hr:Rl P S st a w) {K:Act→World→Prop} {Q:Exit→Act→World→Prop}
 (hK:∀ a' w',Rl P S st' a' w'→K a' w'):if Region.wanted o (yielded ops a.tmps) then o.wpIn (fw r) 0 P a w K Q else (∀ f,o.about P w a.eval=some f→(fw r).fn f)∧K (a.put o.dst undef) w:=by
 rcases hc with hc | ⟨y,h1,hc⟩ | ⟨x,y,h1,h2,h3,h4,h5,hd⟩
 ·exact zpx hcf hS hc hs hr hK
 ·obtain ⟨dst,g',op⟩:=c
  dsimp only at h1
  subst h1
  unfold zgz at hc
  split at hc
  case isFalse=>cases hc
  rename_i hd
  obtain ⟨cc,h2,hc⟩:=qb hc
  obtain ⟨g,h3,hc⟩:=qm hc
  simp only [COper.mk.injEq] at hc
  obtain ⟨rfl,rfl,rfl⟩:=hc
  unfold stepG at hs
  obtain ⟨b,hb,hs⟩:=qb hs
  dsimp only at hb hs
  rw [zmo h3 hb hr]
  have hd':∀ d,o.dst=some d→d<S.nt:=fun d h=>by rw [h] at hd;simpa using hd
  cases b with
  | true =>
    simp only [if_true] at hs ⊢
    unfold coOp at h2
    split at h2
    ·rename_i c' h4
     cases h2
     unfold z89 at h4
     split at h4
     ·split at h4
      ·cases h4
      ·cases h4
     ·rename_i d t x e1 e2
      split at h4
      ·rename_i hcond
       obtain ⟨z,hz,h5⟩:=qm h4
       cases h5
       exact z01 e2 hcond.2.1 hcond.2.2 hz hs hd' hr hK
      ·cases h4
     ·cases h4
    ·exact absurd h2 (by
      split
      ·rename_i c' h4
       intro e;cases e
       rcases zib h4 with ⟨x,hx⟩ | ⟨x,hx⟩ | hx
       ·rw [hx] at h4;obtain ⟨_,_,h5⟩:=qm h4;cases h5
       ·rw [hx] at h4;obtain ⟨_,_,h5⟩:=qm h4;cases h5
       ·cases hx
      ·split
       ·rename_i c' h4
        intro e;cases e
        exact z3g h4
       ·split
        ·rename_i c' h4
         intro e;cases e
         exact z02 h4
        ·intro e;cases e)
  | false =>
    simp only [Bool.false_eq_true,if_false] at hs ⊢
    cases hs
    obtain ⟨Fr,β,R,hl⟩:=hr
    refine ⟨fun _ _=>trivial,hK _ _ ?_⟩
    cases hdst:o.dst with
    | none=>exact ⟨Fr,β,R,hl⟩
    | some d=>exact ⟨Fr,β,R.put (hd' d hdst) (by simp only [Rd,Rds];exact ⟨[],rfl,rfl⟩),hl⟩
 obtain ⟨dst,g,op⟩:=c
 dsimp only at h3 h4 h5
 subst h3;subst h4
 unfold stepG at hs
 obtain ⟨b,hb,hs⟩:=qb hs
 dsimp only at hb hs
 rw [zmo h5 hb hr]
 have hd':∀ d,o.dst=some d→d<S.nt:=fun d h=>by rw [h] at hd;simpa using hd
 obtain ⟨Fr,β,R,hl⟩:=hr
 cases b with
 | true =>
   simp only [if_true,zaa,zar,Option.map_some,Option.some.injEq] at hs ⊢
   subst hs
   have hrun:(execOp a.eval o).run P w=.ok (.value (a.eval x)) w:=by
    unfold execOp;rw [h1];rfl
   refine zcx hrun (hK _ _ ?_)
   cases hdst:o.dst with
   | none=>exact ⟨Fr,β,R,hl⟩
   | some d=>exact ⟨Fr,β,R.put (hd' d hdst) (zbl R.sl h2),hl⟩
 | false =>
   simp only [Bool.false_eq_true,if_false] at hs ⊢
   cases hs
   refine ⟨fun _ _=>trivial,hK _ _ ?_⟩
   cases hdst:o.dst with
   | none=>exact ⟨Fr,β,R,hl⟩
   | some d=>exact ⟨Fr,β,R.put (hd' d hdst) (by simp only [Rd,Rds];exact ⟨[],rfl,rfl⟩),hl⟩
theorem z3h (hcf:zbv P Γ cf) (hS:Good Γ S) {ops:Array Oper} {ali:List Nat} {Q:Exit→Act→World→Prop} {rest:List Nat}:∀ (l:List COper) (k:Nat) (st:St) (a:Act) (w:World),
 (∀ j c,l[j]? =some c→∃ o,ops[k+j]? =some o∧zgz P S.nt ops ali o=some c)→zc0 cf l st=some st'→Rl P S st a w→(∀ a' w',Rl P S st' a' w'→wpOpsIn (fw r) 0 P ops Q rest a' w')→wpOpsIn (fw r) 0 P ops Q (List.range' k l.length++rest) a w
 | [],k,st,a,w,_,h,hr,hK=>by
   simp only [zc0,Option.some.injEq] at h;subst h
   exact hK a w hr
 | c::l,k,st,a,w,hl,h,hr,hK=>by
   simp only [zc0] at h
   obtain ⟨s1,h1,h2⟩:=qb h
   obtain ⟨o,ho,hco⟩:=hl 0 c rfl
   rw [Nat.add_zero] at ho
   rw [List.length_cons,List.range'_succ,List.cons_append]
   unfold wpOpsIn
   simp only [ho]
   exact zpx hcf hS hco h1 hr fun a' w' hr'=>z3h hcf hS l (k+1) s1 a' w' (fun j c' hj=>by
    have:=hl (j+1) c' (by simpa using hj)
    rwa [Nat.add_assoc,Nat.add_comm 1 j]) h2 hr' hK
end
end Nun
namespace Nun
open Go Go.RowKit
def COp.xs:COp→List X
 | .mv x | .asg x | .mvS x | .nilc x | .un _ x | .conv _ x | .b2s x | .box _ _ x | .load _ _ x | .loadA x | .loadM x | .fadr _ x | .fld _ _ _ x | .ext x _ | .len x | .lenS x=>[x]
 | .mvA s=>[.t s]
 | .pick c a b=>[c,a,b]
 | .bin _ x y | .beq _ x y | .eqS _ _ x y | .store _ x y | .iadr _ x y | .paddr _ _ x y | .idxA _ _ _ x y | .appendS x y | .idx x y | .append _ _ x y | .mm _ x y=>[x,y]
 | .alloc ..=>[]
 | .build _ ps | .mksl _ _ _ _ ps=>ps.map (·.2.2)
 | .slice _ x lo hi | .sliceP _ _ x lo hi | .sliceS x lo hi=>x::lo.toList++hi.toList
 | .call _ xs | .clos _ xs=>xs
 | .callv g xs=>g::xs
def X.slots:X→List Nat
 | .t s=>[s]
 | .c _=>[]
def COper.reads (o:COper):List Nat:=o.op.xs.flatMap X.slots++(match o.g with | some (s,_)=>[s] | none=>[])
def ztp:COp→Bool
 | .asg _ | .loadM _ | .alloc .. | .box .. | .store .. | .append .. | .appendS ..=>false
 | _=>true
theorem zi0 {c:COp} {ρ ρ':X→PV} (h:∀ x∈c.xs,ρ x=ρ' x):zar c ρ=zar c ρ':=by
 cases c
 case build zs ps =>
  have:(ps.map fun q=>(q.1,q.2.1,ρ q.2.2))=ps.map fun q=>(q.1,q.2.1,ρ' q.2.2):=List.map_congr_left fun q hq=>by
   rw [h q.2.2 (List.mem_map.2 ⟨q,hq,rfl⟩)]
  simp only [zar,this]
 case clos f xs =>
  have:xs.map ρ=xs.map ρ':=List.map_congr_left fun q hq=>h q hq
  simp only [zar,this]
 case slice n x lo hi =>
  have h1:ρ x=ρ' x:=h x (by simp [COp.xs])
  have h2:lo.map ρ=lo.map ρ':=by cases lo<;>simp;exact h _ (by simp [COp.xs])
  have h3:hi.map ρ=hi.map ρ':=by cases hi<;>simp;exact h _ (by simp [COp.xs])
  simp only [zar,h1,h2,h3]
 case sliceP len n x lo hi =>
  have h1:ρ x=ρ' x:=h x (by simp [COp.xs])
  have h2:lo.map ρ=lo.map ρ':=by cases lo<;>simp;exact h _ (by simp [COp.xs])
  have h3:hi.map ρ=hi.map ρ':=by cases hi<;>simp;exact h _ (by simp [COp.xs])
  simp only [zar,h1,h2,h3]
 case sliceS x lo hi =>
  have h1:ρ x=ρ' x:=h x (by simp [COp.xs])
  have h2:lo.map ρ=lo.map ρ':=by cases lo<;>simp;exact h _ (by simp [COp.xs])
  have h3:hi.map ρ=hi.map ρ':=by cases hi<;>simp;exact h _ (by simp [COp.xs])
  simp only [zar,h1,h2,h3]
 all_goals first
  | rfl
  | (rename_i x y z;have h1:=h x (by simp [COp.xs]);have h2:=h y (by simp [COp.xs]);have h3:=h z (by simp [COp.xs]);simp only [zar,h1,h2,h3];done)
  | (rename_i x y;have h1:=h x (by simp [COp.xs]);have h2:=h y (by simp [COp.xs]);simp only [zar,h1,h2];done)
  | (rename_i x;have h1:=h x (by simp [COp.xs]);simp only [zar,h1];done)
  | (rename_i x _;have h1:=h x (by simp [COp.xs]);simp only [zar,h1];done)
  | (rename_i g _ _ x;have h1:=h x (by simp [COp.xs]);cases g<;>simp only [zar,h1];done)
  | skip
structure Eff where
 p:PV
 own:Bool
 al:Option Loc
 nb:zao
def putE (st:St) (d:Nat) (e:Eff):St:={ sl:=(d,e.p)::st.sl,ow:=(if e.own then [.slot d] else [])++zag d st.ow,al:=(match e.al with | some L=>[(d,L)] | none=>[])++za8 d st.al,bx:=st.bx++e.nb }
def makes:COp→Bool
 | .alloc .. | .box ..=>true
 | _=>false
theorem zfl (st:St) (d:Nat) (p:PV):putE st d ⟨p,false,none,[]⟩=st.put d p:=by simp [putE,St.put]
theorem ztq (st:St) (d:Nat) (p:PV):putE st d ⟨p,true,none,[]⟩=st.putOwn d p:=by simp [putE,St.putOwn]
theorem zpy {sl sl':List (Nat × PV)} {x:X} (h:∀ s∈x.slots,look sl s=look sl' s):x.ev sl=x.ev sl':=by
 cases x with
 | t s=>exact h s (by simp [X.slots])
 | c v=>rfl
theorem zpz {sl sl':List (Nat × PV)} {c:COp} (h:∀ s∈c.xs.flatMap X.slots,look sl s=look sl' s):∀ x∈c.xs,x.ev sl=x.ev sl':=fun x hx=>zpy fun s hs=>h s (List.mem_flatMap.2 ⟨x,hx,hs⟩)
theorem zsd {ag:Bool} {n:Nat} {p v:PV} {bx:zao} (z:zao) (h:zry ag n p bx=some v):zry ag n p (bx++z)=some v:=by
 unfold zry at h ⊢
 cases p with
 | ptr b o =>
   dsimp only at h ⊢
   obtain ⟨cs,h1,h2⟩:=qb h
   rw [zjx h1];exact h2
 | elt cs=>exact h
 | _=>cases h
theorem z3i {cf:Callee} {st st':St} {o:COper} {d:Nat} (hs:zer cf st o=some st') (hk:ztp o.op=true) (hd:o.dst=some d) :
 ∃ e:Eff,st'=putE st d e∧e.nb=[]∧(∀ s,e.al=some (.slot s)→s∈o.reads)∧∀ st2:St,(∀ s∈o.reads,look st2.sl s=look st.sl s)→(∃ z,st2.bx=st.bx++z)→zer cf st2 o=some (putE st2 d e):=by
 obtain ⟨dst,g,c⟩:=o
 dsimp only at hd hk
 subst hd
 unfold zer at hs
 obtain ⟨b,hb,hs2⟩:=qb hs
 clear hs
 have hs:=hs2;clear hs2
 dsimp only at hb hs
 have hg2:∀ st2:St,(∀ s∈(COper.mk (some d) g c).reads,look st2.sl s=look st.sl s)→zbp st2 g=some b:=fun st2 h=>by
  rw [← hb]
  cases g with
  | none=>rfl
  | some q =>
    obtain ⟨s,want⟩:=q
    simp only [zbp]
    rw [h s (by simp [COper.reads])]
 cases b with
 | false =>
   simp only [Bool.false_eq_true,if_false,Option.some.injEq] at hs
   refine ⟨⟨.tup [],false,none,[]⟩,by rw [← hs,zfl];rfl,rfl,(fun _ h=>by cases h),fun st2 h _=>?_⟩
   unfold zer
   simp only [hg2 st2 h,Option.bind_some,Bool.false_eq_true,if_false,zfl];rfl
 | true =>
   simp only [if_true] at hs
   split at hs
   case isFalse=>cases hs
   rename_i hdyn
   have fin:∀ e:Eff,e.nb=[]→st'=putE st d e→(∀ s,e.al=some (.slot s)→.t s∈c.xs)→(∀ st2:St,(∀ x∈c.xs,x.ev st2.sl=x.ev st.sl)→(∃ z,st2.bx=st.bx++z)→za7 cf st2.sl c=true∧zaa cf st2 (some d) c=some (putE st2 d e)) →
    ∃ e:Eff,st'=putE st d e∧e.nb=[]∧(∀ s,e.al=some (.slot s)→s∈(COper.mk (some d) g c).reads)∧∀ st2:St,(∀ s∈(COper.mk (some d) g c).reads,look st2.sl s=look st.sl s)→(∃ z,st2.bx=st.bx++z)→zer cf st2 ⟨some d,g,c⟩=some (putE st2 d e):=fun e hnb h1 h0 h2=>by
    refine ⟨e,h1,hnb,fun s hs=>by simp only [COper.reads];exact List.mem_append.2 (.inl (List.mem_flatMap.2 ⟨_,h0 s hs,by simp [X.slots]⟩)),fun st2 h hbx=>?_⟩
    obtain ⟨k1,k2⟩:=h2 st2 (zpz fun s hs=>h s (by simp only [COper.reads];exact List.mem_append.2 (.inl hs))) hbx
    unfold zer
    simp only [hg2 st2 h,Option.bind_some,if_true,k1,k2]
   have plain:zfj c=true→(∀ sl,za7 cf sl c=true)→∃ e:Eff,st'=putE st d e∧e.nb=[]∧(∀ s,e.al=some (.slot s)→s∈(COper.mk (some d) g c).reads)∧∀ st2:St,(∀ s∈(COper.mk (some d) g c).reads,look st2.sl s=look st.sl s)→(∃ z,st2.bx=st.bx++z)→zer cf st2 ⟨some d,g,c⟩=some (putE st2 d e):=fun hp hpd=>by
    rw [zc4 hp] at hs
    obtain ⟨p,h1,rfl⟩:=qm hs
    refine fin ⟨p,false,none,[]⟩ rfl (by rw [zfl];rfl) (fun _ h=>by cases h) fun st2 h _=>⟨hpd _,?_⟩
    rw [zc4 hp,zi0 (ρ':=(·.ev st.sl)) h,h1,zfl];rfl
   have calls:∀ (f:FuncId) (az:List X) (cs:List PV),zcs cf f ((az.map fun x=>(x.ev st.sl).weak)++cs)=true→callSt cf st (some d) f ((az.map fun x=>(x.ev st.sl).weak)++cs)=some st' →
    (∀ st2:St,(∀ x∈c.xs,x.ev st2.sl=x.ev st.sl)→za7 cf st2.sl c=za7 cf st.sl c∧zaa cf st2 (some d) c=callSt cf st2 (some d) f ((az.map fun x=>(x.ev st.sl).weak)++cs)) →
    ∃ e:Eff,st'=putE st d e∧e.nb=[]∧(∀ s,e.al=some (.slot s)→s∈(COper.mk (some d) g c).reads)∧∀ st2:St,(∀ s∈(COper.mk (some d) g c).reads,look st2.sl s=look st.sl s)→(∃ z,st2.bx=st.bx++z)→zer cf st2 ⟨some d,g,c⟩=some (putE st2 d e):=fun f az cs hpl hcall hst2=>by
    unfold zcs at hpl
    simp only [Bool.and_eq_true] at hpl
    obtain ⟨hnp,hpl⟩:=hpl
    unfold callSt at hcall
    rw [if_pos hnp] at hcall
    obtain ⟨⟨vs',os,bx',oc'⟩,k1,k2⟩:=qb hcall
    rw [k1] at hpl
    dsimp only at k2 hpl
    rw [if_pos hpl] at k2
    have hnp':=hpl
    have e1:∀ s:St,(if os then s.putOwn d (zd7 vs') else s.put d (zd7 vs'))=putE s d ⟨zd7 vs',os,none,[]⟩:=fun s=>by
     cases os
     ·rw [zfl];rfl
     ·rw [ztq];rfl
    rw [e1] at k2
    cases k2
    refine fin ⟨zd7 vs',os,none,[]⟩ rfl rfl (fun _ h=>by cases h) fun st2 h _=>?_
    obtain ⟨q1,q2⟩:=hst2 st2 h
    refine ⟨q1.trans hdyn,?_⟩
    rw [q2]
    unfold callSt
    rw [if_pos hnp,k1]
    simp only [Option.bind_some]
    rw [if_pos hnp',e1]
   cases c
   case mvA sx =>
    clear plain calls
    obtain ⟨hsd,hs3⟩:sx≠d∧st'={ (st.put d (look st.sl sx)) with al:=(d,.slot sx)::za8 d st.al }:=by
     simp only [zaa,Option.bind_some] at hs
     split at hs
     ·cases hs
     ·rename_i hsd
      exact ⟨hsd,(Option.some.inj hs).symm⟩
    refine fin ⟨look st.sl sx,false,some (.slot sx),[]⟩ rfl (by rw [hs3];simp [putE,St.put]) (fun s h=>by cases h;simp [COp.xs]) fun st2 h _=>⟨rfl,?_⟩
    have h1:look st2.sl sx=look st.sl sx:=h (.t sx) (by simp [COp.xs])
    simp only [zaa,Option.bind_some,if_neg hsd,h1]
    simp [putE,St.put]
   case mksl by0 n size zs ps =>
    simp only [zaa,Option.bind_some] at hs
    obtain ⟨cs,h1,hs2⟩:=qb hs
    clear hs
    split at hs2
    case isFalse=>cases hs2
    rename_i hif
    cases hs2
    refine fin ⟨.slc n (zep cs),true,none,[]⟩ rfl (by rw [ztq]) (fun _ h=>by cases h) fun st2 h _=>⟨rfl,?_⟩
    have:(ps.map fun q=>(q.1,q.2.1,q.2.2.ev st2.sl))=ps.map fun q=>(q.1,q.2.1,q.2.2.ev st.sl):=List.map_congr_left fun q hq=>by
     rw [h q.2.2 (List.mem_map.2 ⟨q,hq,rfl⟩)]
    simp only [zaa,Option.bind_some,this,h1,if_pos hif,ztq]
   case b2s x =>
    simp only [zaa] at hs
    obtain ⟨p,h1,rfl⟩:=qm hs
    refine fin ⟨p,false,none,[]⟩ rfl (by rw [zfl];rfl) (fun _ h=>by cases h) fun st2 h hbx=>⟨rfl,?_⟩
    obtain ⟨z,hz⟩:=hbx
    have h2:b2sV (x.ev st.sl) (st.bx++z)=some p:=by
     unfold b2sV at h1 ⊢
     split at h1
     ·exact h1
     ·exact h1
     ·obtain ⟨q,h3,h4⟩:=qb h1
      rw [zjx h3];exact h4
     ·cases h1
    simp only [zaa,h x (by simp [COp.xs]),hz,h2,Option.map_some,zfl];rfl
   case load ag n x =>
    simp only [zaa,Option.bind_some] at hs
    obtain ⟨p,h1,rfl⟩:=qm hs
    refine fin ⟨p,false,none,[]⟩ rfl (by rw [zfl]) (fun _ h=>by cases h) fun st2 h hbx=>⟨rfl,?_⟩
    obtain ⟨z,hz⟩:=hbx
    simp only [zaa,Option.bind_some,h x (by simp [COp.xs]),hz,zsd z h1,Option.map_some,zfl]
   case loadA x =>
    simp only [zaa,Option.bind_some] at hs
    split at hs
    ·rename_i b o e1
     obtain ⟨p,h1,rfl⟩:=qm hs
     refine fin ⟨p,false,some (.cell b o),[]⟩ rfl (by simp [putE,St.put]) (fun _ h=>by cases h) fun st2 h hbx=>⟨rfl,?_⟩
     obtain ⟨z,hz⟩:=hbx
     have h1':((ze0 (st.bx++z) b).bind fun q=>q.2[o]?)=some p:=by
      obtain ⟨cs,h2,h3⟩:=qb h1
      rw [zjx h2];exact h3
     simp only [zaa,Option.bind_some,h x (by simp [COp.xs]),hz,e1,h1',Option.map_some]
     simp [putE,St.put]
    ·cases hs
   case call f args =>
    simp only [zaa] at hs
    simp only [za7] at hdyn
    refine calls f args [] (by simpa using hdyn) (by simpa using hs) fun st2 h=>?_
    have:(args.map fun x=>(x.ev st2.sl).weak)=args.map fun x=>(x.ev st.sl).weak:=List.map_congr_left fun q hq=>by rw [h q hq]
    simp only [za7,zaa,this,List.append_nil,and_self]
   case callv gx args =>
    simp only [zaa] at hs
    simp only [za7] at hdyn
    split at hs
    ·rename_i f caps e1
     rw [e1] at hdyn
     split at hs
     ·cases hs
     rename_i hne
     have hdyn2:zcs cf f ((args.map fun x=>(x.ev st.sl).weak)++caps)=true:=by simp only [Bool.and_eq_true] at hdyn;exact hdyn.2
     refine calls f args caps hdyn2 hs fun st2 h=>?_
     have h1:(args.map fun x=>(x.ev st2.sl).weak)=args.map fun x=>(x.ev st.sl).weak:=List.map_congr_left fun q hq=>by rw [h q (by simp [COp.xs,hq])]
     have h2:gx.ev st2.sl=.clo f caps:=(h gx (by simp [COp.xs])).trans e1
     simp only [za7,zaa,h1,h2,e1,if_neg hne,and_self]
    ·rename_i b e1;rw [e1] at hdyn;cases hdyn
    ·cases hs
   case asg x=>cases hk
   case loadM x=>cases hk
   case alloc e0 zs=>cases hk
   case box e0 n x=>cases hk
   case store n x y=>cases hk
   case append n x y=>cases hk
   case appendS x y=>cases hk
   all_goals exact plain rfl fun _=>rfl
theorem zi1 {ps:List PV} (h:zpn ps=true) (b o:Nat):za5 b o ps=[]:=by
 induction ps generalizing o with
 | nil=>rfl
 | cons p r ih =>
   simp only [zpn,List.all_cons,Bool.and_eq_true,Bool.not_eq_true'] at h
   simp only [za5,h.1]
   exact ih h.2 (o+1)
theorem zmp {ps:List PV} (h:zpn ps=true):ps.map wk=ps:=by
 induction ps with
 | nil=>rfl
 | cons p r ih =>
   simp only [zpn,List.all_cons,Bool.and_eq_true,Bool.not_eq_true'] at h
   rw [List.map_cons,ih h.2,yev h.1]
theorem z03 {cf:Callee} {st st':St} {o:COper} {d:Nat} (hs:zer cf st o=some st') (hk:makes o.op=true) (hd:o.dst=some d) :
 ∃ e:Eff,st'=putE st d e∧(∀ s,e.al=some (.slot s)→s∈o.reads)∧∀ st2:St,(∀ s∈o.reads,look st2.sl s=look st.sl s)→st2.bx=st.bx→zer cf st2 o=some (putE st2 d e):=by
 obtain ⟨dst,g,c⟩:=o
 dsimp only at hd hk
 subst hd
 unfold zer at hs
 obtain ⟨b,hb,hs2⟩:=qb hs
 clear hs
 have hs:=hs2;clear hs2
 dsimp only at hb hs
 have hg2:∀ st2:St,(∀ s∈(COper.mk (some d) g c).reads,look st2.sl s=look st.sl s)→zbp st2 g=some b:=fun st2 h=>by
  rw [← hb]
  cases g with
  | none=>rfl
  | some q =>
    obtain ⟨s,want⟩:=q
    simp only [zbp]
    rw [h s (by simp [COper.reads])]
 cases b with
 | false =>
   simp only [Bool.false_eq_true,if_false,Option.some.injEq] at hs
   refine ⟨⟨.tup [],false,none,[]⟩,by rw [← hs,zfl];rfl,(fun _ h=>by cases h),fun st2 h _=>?_⟩
   unfold zer
   simp only [hg2 st2 h,Option.bind_some,Bool.false_eq_true,if_false,zfl];rfl
 | true =>
   simp only [if_true] at hs
   split at hs
   case isFalse=>cases hs
   rename_i hdyn
   cases c
   case alloc e0 zs =>
    simp only [za7] at hdyn
    simp only [zaa,Option.map_some,Option.some.injEq,zi1 hdyn,zmp hdyn,List.nil_append] at hs
    refine ⟨⟨.ptr st.bx.length 0,false,none,[(e0,zs)]⟩,by rw [← hs];simp [putE,St.put],(fun _ h=>by cases h),fun st2 h hbx=>?_⟩
    unfold zer
    simp only [hg2 st2 h,Option.bind_some,if_true,za7,hdyn,zaa,Option.map_some,hbx,zi1 hdyn,zmp hdyn,List.nil_append]
    simp [putE,St.put,hbx]
   case box e0 n x =>
    simp only [za7] at hdyn
    simp only [zaa,Option.bind_some,zi1 hdyn,zmp hdyn,List.nil_append] at hs
    split at hs
    case isFalse=>cases hs
    rename_i hc
    cases hs
    refine ⟨⟨.ptr st.bx.length 0,false,none,[(e0,(x.ev st.sl).cells)]⟩,by simp [putE,St.put],(fun _ h=>by cases h),fun st2 h hbx=>?_⟩
    have hx:x.ev st2.sl=x.ev st.sl:=zpz (c:=.box e0 n x) (fun s hs=>h s (by simp only [COper.reads];exact List.mem_append.2 (.inl hs))) x (by simp [COp.xs])
    unfold zer
    simp only [hg2 st2 h,Option.bind_some,if_true,za7,hdyn,zaa,hx,if_pos hc,hbx,zi1 hdyn,zmp hdyn,List.nil_append]
    simp [putE,St.put,hbx]
   all_goals cases hk
end Nun
namespace Nun
open Go Go.RowKit
def zc9 (ops:Array Oper) (i:Nat):List Nat:=match ops[i]? with
 | some o=>o.after.toList.filterMap fun e=>if Region.binds .any e then some e.on else none
 | none=>[]
def ancL:List (List Nat)→List (List Nat)→List (List Nat)
 | acc,[]=>acc
 | acc,ds::r=>ancL (acc++[(ds.flatMap fun j=>j::acc.getD j []).eraseDups]) r
def ancs (ops:Array Oper):List (List Nat):=ancL [] ((List.range ops.size).map (zc9 ops))
def zy2 (ops:Array Oper) (cs:List COper) (k:Nat):Bool :=
 let an:=ancs ops
 decide (k≤cs.length) &&
 (List.range ops.size).all (fun i=>(zc9 ops i).all (·<i)) &&
 (List.range k).all (fun i=>match cs[i]? with
   | some o=>(ztp o.op || (i+1 == k && makes o.op)) && o.dst.isSome
   | none=>true) &&
 (List.range k).all (fun i=>(List.range k).all fun j=>i == j || ((cs[i]?).bind (·.dst)) != ((cs[j]?).bind (·.dst))) &&
 (List.range k).all (fun i=>match cs[i]? with
   | some o=>o.reads.all fun s=>(List.range k).all fun j=>((cs[j]?).bind (·.dst)) != some s || (decide (j<i) && (an.getD i []).contains j)
   | none=>true) &&
 (List.range cs.length).all (fun i=>decide (i<k) || (List.range i).all fun j=>(an.getD i []).contains j)
theorem z3j {dir:List (List Nat)} {E:Nat→Prop} (hE:∀ i,E i→∀ j∈dir.getD i [],E j):∀ (r acc done:List (List Nat)),dir=done++r→acc.length=done.length →
 (∀ i,(∀ j∈done.getD i [],E j)→∀ x∈acc.getD i [],E x)→∀ i,(∀ j∈dir.getD i [],E j)→∀ x∈(ancL acc r).getD i [],E x
 | [],acc,done,hd,hl,h,i,hi,x,hx=>by
   simp only [ancL] at hx
   rw [hd,List.append_nil] at hi
   exact h i hi x hx
 | ds::r,acc,done,hd,hl,h,i,hi,x,hx=>by
   simp only [ancL] at hx
   refine z3j hE r _ (done++[ds]) (by rw [hd];simp) (by simp [hl]) (fun i' hi' x' hx'=>?_) i hi x hx
   by_cases hlt:i'<acc.length
   ·rw [List.getD_eq_getElem?_getD,List.getElem?_append_left hlt] at hx'
    rw [List.getD_eq_getElem?_getD,List.getElem?_append_left (by omega)] at hi'
    exact h i' (by rw [List.getD_eq_getElem?_getD];exact hi') x' (by rw [List.getD_eq_getElem?_getD];exact hx')
   ·by_cases he:i'=acc.length
    ·subst he
     rw [List.getD_eq_getElem?_getD,List.getElem?_append_right (Nat.le_refl _)] at hx'
     rw [List.getD_eq_getElem?_getD,hl,List.getElem?_append_right (Nat.le_refl _)] at hi'
     simp only [Nat.sub_self,List.getElem?_cons_zero,Option.getD_some] at hx' hi'
     have hx2:=List.mem_eraseDups.1 hx'
     obtain ⟨j,hj,hx3⟩:=List.mem_flatMap.1 hx2
     have hEj:=hi' j hj
     rcases List.mem_cons.1 hx3 with e | hx4
     ·rw [e];exact hEj
     ·refine h j (fun y hy=>hE j hEj y ?_) x' hx4
      rw [hd]
      by_cases hjl:j<done.length
      ·rw [List.getD_eq_getElem?_getD,List.getElem?_append_left hjl];rwa [List.getD_eq_getElem?_getD] at hy
      ·rw [List.getD_eq_getElem?_getD,List.getElem?_eq_none (by omega)] at hy;cases hy
    ·rw [List.getD_eq_getElem?_getD,List.getElem?_eq_none (by simp;omega)] at hx';cases hx'
theorem ztr {ops:Array Oper} {E:Nat→Prop} (hE:∀ i,E i→∀ j∈zc9 ops i,E j) {i:Nat} (hi:i<ops.size) (h:∀ j∈zc9 ops i,E j):∀ x∈(ancs ops).getD i [],E x:=by
 have hg:∀ i,i<ops.size→((List.range ops.size).map (zc9 ops)).getD i []=zc9 ops i:=fun i hi=>by
  rw [List.getD_eq_getElem?_getD,List.getElem?_map,List.getElem?_range hi];rfl
 refine z3j (dir:=(List.range ops.size).map (zc9 ops)) (fun i' hEi j hj=>?_) _ [] [] rfl rfl (fun i _ x hx=>by simp at hx) i (by rw [hg i hi];exact h)
 by_cases hlt:i'<ops.size
 ·rw [hg i' hlt] at hj;exact hE i' hEi j hj
 ·rw [List.getD_eq_getElem?_getD,List.getElem?_eq_none (by simp;omega)] at hj;cases hj
section
variable {P:Program} {w w':World} {r:Option Nat} {Fr Fr':Nat→Nat} {β β':List Nat} {T:List Deferred} {base nt:Nat} {M:Nat→Prop} {w0:World} {F0:Nat→Nat} {st st':St} {a a':Act} {cf:Callee} {Γ:Glob} {S:S0}
theorem Rl.congr (h:Rl P S st a w) (h1:∀ i,look st'.sl i=look st.sl i) (h2:∀ L,L∈st'.ow→L∈st.ow) (h3:∀ q,q∈st'.al→q∈st.al) (h4:st'.bx=st.bx):Rl P S st' a w:=by
 obtain ⟨Fr,β,R,hl⟩:=h
 have hpv:∀ L,pvAt st' L=pvAt st L:=fun L=>by cases L<;>simp only [pvAt,h1,h4]
 exact ⟨Fr,β,⟨fun i=>by rw [h1];exact R.sl i,R.nt,R.df,by rw [h4];exact R.bx,R.nd,fun L hL=>by rw [hpv];exact R.own L (h2 L hL),fun L hL L' hL'=>R.sep L (h2 L hL) L' (h2 L' hL'),fun L hL=>R.out L (h2 L hL),fun q hq=>R.al q (h3 q hq),
  fun g hg=>R.may g (hg.imp id fun ⟨L,k1,k2⟩=>⟨L,h2 L k1,k2⟩),R.old,R.ge,R.os,R.tape,R.output⟩,hl⟩
structure Sat (k:Nat) (d:Nat→Nat) (eff:Nat→Eff) (E:Nat→Prop) (st0 st:St):Prop where
 e1:∀ i,i<k→E i→look st.sl (d i)=(eff i).p
 e2:∀ s,(∀ i,i<k→E i→d i≠s)→look st.sl s=look st0.sl s
 e3:∀ L,L∈st.ow ↔ (∃ i,i<k∧E i∧(eff i).own=true∧L=.slot (d i))∨(L∈st0.ow∧∀ i,i<k→E i→ment (d i) L=false)
 e4:∀ q,q∈st.al ↔ ∃ i,i<k∧E i∧(eff i).al=some q.2∧q.1=d i
 e5:(∀ i,i<k→E i→(eff i).nb=[])→st.bx=st0.bx
 e6:∀ i,i<k→E i→(eff i).nb≠[]→st.bx=st0.bx++(eff i).nb
theorem Sat.start {k:Nat} {d:Nat→Nat} {eff:Nat→Eff} {st0:St} (h:st0.al=[]):Sat k d eff (fun _=>False) st0 st0 :=
 ⟨fun _ _ h=>h.elim,fun _ _=>rfl,fun L=>⟨fun h=>.inr ⟨h,fun _ _ h=>h.elim⟩,fun h=>h.elim (fun ⟨_,_,h,_⟩=>h.elim) (·.1)⟩,fun q=>by rw [h];exact ⟨(fun h=>by cases h),fun ⟨_,_,h,_⟩=>h.elim⟩,fun _=>rfl,fun _ _ h=>h.elim⟩
theorem Sat.step {k:Nat} {d:Nat→Nat} {eff:Nat→Eff} {E:Nat→Prop} {st0 st:St} (h:Sat k d eff E st0 st) (hd:∀ i j,i<k→j<k→i≠j→d i≠d j) {i:Nat} (hi:i<k) (hn:¬ E i)
 (hnb:∀ j,j<k→(eff j).nb≠[]→j+1=k) (hal:∀ j,j<k→E j→∀ L,(eff j).al=some L→ment (d i) L=false):Sat k d eff (fun j=>E j∨j=i) st0 (putE st (d i) (eff i)):=by
 have hne:∀ j,j<k→E j→d j≠d i:=fun j hj hE=>hd j i hj hi fun e=>hn (e ▸ hE)
 refine ⟨fun j hj hE=>?_,fun s hs=>?_,fun L=>?_,fun q=>?_,fun hall=>?_,fun j hj hE hne'=>?_⟩
 rotate_left 4
 ·have h1:=h.e5 fun j hj hE=>hall j hj (.inl hE)
  simp only [putE,h1,hall i hi (.inr rfl),List.append_nil]
 ·rcases hE with hE | rfl
  ·have h1:(eff i).nb=[]:=Classical.byContradiction fun hc=>by
    have e1:=hnb i hi hc
    have e2:=hnb j hj hne'
    exact hn ((show i=j by omega) ▸ hE)
   simp only [putE,h1,List.append_nil]
   exact h.e6 j hj hE hne'
  ·have h1:=h.e5 fun m hm hE=>Classical.byContradiction fun hc=>by
    have e1:=hnb j hj hne'
    have e2:=hnb m hm hc
    exact hn ((show m=j by omega) ▸ hE)
   simp only [putE,h1]
 ·simp only [putE,za2]
  rcases hE with hE | rfl
  ·rw [if_neg (Ne.symm (hne j hj hE))];exact h.e1 j hj hE
  ·rw [if_pos rfl]
 ·simp only [putE,za2]
  rw [if_neg (hs i hi (.inr rfl))]
  exact h.e2 s fun j hj hE=>hs j hj (.inl hE)
 ·simp only [putE,List.mem_append,zcc]
  constructor
  ·rintro (hm | ⟨hm,hx⟩)
   ·left
    cases ho:(eff i).own with
    | false=>rw [ho] at hm;cases hm
    | true=>rw [ho] at hm;simp at hm;exact ⟨i,hi,.inr rfl,ho,hm⟩
   ·rcases (h.e3 L).1 hm with ⟨j,k1,k2,k3,k4⟩ | ⟨k1,k2⟩
    ·exact .inl ⟨j,k1,.inl k2,k3,k4⟩
    ·refine .inr ⟨k1,fun j hj hE=>?_⟩
     rcases hE with hE | rfl
     ·exact k2 j hj hE
     ·exact hx
  ·rintro (⟨j,k1,k2,k3,k4⟩ | ⟨k1,k2⟩)
   ·rcases k2 with k2 | rfl
    ·right
     refine ⟨(h.e3 L).2 (.inl ⟨j,k1,k2,k3,k4⟩),?_⟩
     rw [k4];simp [ment];exact hne j k1 k2
    ·left;rw [k3,k4];simp
   ·exact .inr ⟨(h.e3 L).2 (.inr ⟨k1,fun j hj hE=>k2 j hj (.inl hE)⟩),k2 i hi (.inr rfl)⟩
 ·simp only [putE,List.mem_append,zfz]
  constructor
  ·rintro (hm | ⟨hm,hx,hy⟩)
   ·cases ho:(eff i).al with
    | none=>rw [ho] at hm;cases hm
    | some L =>
      rw [ho] at hm;simp at hm
      exact ⟨i,hi,.inr rfl,by rw [ho,hm],by rw [hm]⟩
   ·obtain ⟨j,k1,k2,k3,k4⟩:=(h.e4 q).1 hm
    exact ⟨j,k1,.inl k2,k3,k4⟩
  ·rintro ⟨j,k1,k2,k3,k4⟩
   rcases k2 with k2 | rfl
   ·exact .inr ⟨(h.e4 q).2 ⟨j,k1,k2,k3,k4⟩,by rw [k4];exact hne j k1 k2,hal j k1 k2 _ k3⟩
   ·left;rw [k3];simp;rw [← k4]
theorem zy3:∀ (l:List COper) (st stk:St),zhh cf l st=some stk→(∀ (i:Nat) (o:COper),l[i]? =some o→(ztp o.op=true∨(i+1=l.length∧makes o.op=true))∧o.dst.isSome=true) →
 ∃ (es:List Eff) (ss:List St),es.length=l.length∧ss[0]? =some st∧ss[l.length]? =some stk∧∀ i o,l[i]? =some o→∃ e s d,es[i]? =some e∧ss[i]? =some s∧o.dst=some d∧ss[i+1]? =some (putE s d e)∧(∀ x,e.al=some (.slot x)→x∈o.reads)∧(e.nb≠[]→i+1=l.length) ∧
   ∀ st2:St,(∀ x∈o.reads,look st2.sl x=look s.sl x)→(∃ z,st2.bx=s.bx++z)→(i+1=l.length→st2.bx=s.bx)→zer cf st2 o=some (putE st2 d e)
 | [],st,stk,h,_=>by
   simp only [zhh,Option.some.injEq] at h;subst h
   exact ⟨[],[st],rfl,rfl,rfl,fun i o hi=>by simp at hi⟩
 | o::l,st,stk,h,hk=>by
   simp only [zhh] at h
   obtain ⟨s1,h1,h2⟩:=qb h
   obtain ⟨hk1,hk2⟩:=hk 0 o (by simp)
   obtain ⟨d,hd⟩:=Option.isSome_iff_exists.1 hk2
   obtain ⟨e,e1,h4,h4b,h5⟩:∃ e:Eff,s1=putE st d e∧(∀ x,e.al=some (.slot x)→x∈o.reads)∧(e.nb≠[]→0+1=(o::l).length)∧∀ st2:St,(∀ x∈o.reads,look st2.sl x=look st.sl x)→(∃ z,st2.bx=st.bx++z)→(0+1=(o::l).length→st2.bx=st.bx)→zer cf st2 o=some (putE st2 d e):=by
    rcases hk1 with hk1 | ⟨hk1,hk3⟩
    ·obtain ⟨e,e1,e2,e3,e4⟩:=z3i h1 hk1 hd
     exact ⟨e,e1,e3,fun h=>absurd e2 h,fun st2 k1 k2 _=>e4 st2 k1 k2⟩
    ·obtain ⟨e,e1,e3,e4⟩:=z03 h1 hk3 hd
     exact ⟨e,e1,e3,fun _=>hk1,fun st2 k1 _ k3=>e4 st2 k1 (k3 hk1)⟩
   subst e1
   obtain ⟨es,ss,k1,k2,k3,k4⟩:=zy3 l _ stk h2 fun i o' ho'=>by
    obtain ⟨q1,q2⟩:=hk (i+1) o' (by simpa using ho')
    exact ⟨q1.imp id fun ⟨q3,q4⟩=>⟨by simpa using q3,q4⟩,q2⟩
   refine ⟨e::es,st::ss,by simp [k1],rfl,by simpa using k3,fun i o' hi=>?_⟩
   cases i with
   | zero =>
     simp at hi;subst hi
     exact ⟨e,st,d,rfl,rfl,hd,by simpa using k2,h4,h4b,h5⟩
   | succ i =>
     obtain ⟨e',s',d',q1,q2,q3,q4,q5,q6,q7⟩:=k4 i o' (by simpa using hi)
     exact ⟨e',s',d',by simpa using q1,by simpa using q2,q3,by simpa using q4,q5,(fun h=>by have:=q6 h;simp;omega),fun st2 u1 u2 u3=>q7 st2 u1 u2 fun u4=>u3 (by simp;omega)⟩
theorem ye0 {o:COper} (h:zer cf st o=some st'):stepG cf st o=some st':=by
 unfold zer at h
 obtain ⟨b,hb,h⟩:=qb h
 unfold stepG
 rw [hb]
 cases b with
 | false=>exact h
 | true =>
   simp only [if_true] at h
   simp only [Option.bind_some,if_true]
   split at h
   ·exact h
   ·cases h
theorem zp0 {ops:Array Oper} {Q:Exit→Act→World→Prop} {K:Act→World→Prop} {i:Nat} {o:Oper} (ho:ops[i]? =some o) (h:if Region.wanted o (yielded ops a.tmps) then o.wpIn (fw r) 0 P a w K Q else (∀ f,o.about P w a.eval=some f→(fw r).fn f)∧K (a.put o.dst undef) w):wpOpIn (fw r) 0 P ops Q i K a w:=by
 unfold wpOpIn
 simp only [ho];exact h
theorem z9c (hcf:zbv P Γ cf) (hS:Good Γ S) {ops:Array Oper} {ali:List Nat} {cs:List COper} {k:Nat} {Q:Exit→Act→World→Prop} {st0 stk stF:St} (hok:zy2 ops cs k=true) (hlen:cs.length=ops.size)
 (hco:∀ (j:Nat) (c:COper),cs[j]? =some c→∃ o,ops[j]? =some o∧CoR P S.nt ops ali o c) (hal:st0.al=[]) (hpre:zhh cf (cs.take k) st0=some stk) (htail:zc0 cf (cs.drop k) stk=some stF) (hr:Rl P S st0 a w)
 (hK:∀ a' w',Rl P S stF a' w'→Q .normal a' w'):wpAnyIn (fw r) 0 P .any ops Q ops.size (Array.replicate ops.size false) a w:=by
 unfold zy2 at hok
 simp only [Bool.and_eq_true,decide_eq_true_eq,List.all_eq_true,List.mem_range,Bool.or_eq_true,bne_iff_ne,ne_eq,beq_iff_eq] at hok
 obtain ⟨⟨⟨⟨⟨hk,hback⟩,hkind⟩,hdist⟩,hreads⟩,htl⟩:=hok
 have hkl:(cs.take k).length=k:=by rw [List.length_take];omega
 have hkind':∀ (i:Nat) (o:COper),(cs.take k)[i]? =some o→(ztp o.op=true∨(i+1=(cs.take k).length∧makes o.op=true))∧o.dst.isSome=true:=fun i o hi=>by
  have hik:i<k:=by rw [← hkl];exact (qg hi).1
  rw [List.getElem?_take_of_lt hik] at hi
  have:=hkind i hik
  rw [hi] at this
  simp only [Bool.and_eq_true,Bool.or_eq_true,beq_iff_eq] at this
  rw [hkl];exact this
 obtain ⟨es,ss,hel,hs0,hsk,hss⟩:=zy3 (cf:=cf) (cs.take k) st0 stk hpre hkind'
 rw [hkl] at hel hsk hss
 obtain ⟨d,hd⟩:∃ d:Nat→Nat,∀ (i:Nat) (c:COper),i<k→cs[i]? =some c→c.dst=some (d i):=by
  refine ⟨fun i=>((cs[i]?).bind (·.dst)).getD 0,fun i c hi hc=>?_⟩
  have h1:=(hkind' i c (show (cs.take k)[i]? =some c by rw [List.getElem?_take_of_lt hi];exact hc)).2
  obtain ⟨x,hx⟩:=Option.isSome_iff_exists.1 h1
  simp [hc,hx]
 obtain ⟨eff,heff⟩:∃ eff:Nat→Eff,∀ (i:Nat) (e:Eff),es[i]? =some e→eff i=e:=⟨fun i=>(es[i]?).getD ⟨.unk,false,none,[]⟩,fun i e h=>by simp [h]⟩
 have hcs:∀ i:Nat,i<k→∃ c,cs[i]? =some c:=fun i hi=>⟨_,qe (by omega)⟩
 have hdd:∀ i j,i<k→j<k→i≠j→d i≠d j:=fun i j hi hj hne e=>by
  obtain ⟨c,hc⟩:=hcs i hi
  obtain ⟨c',hc'⟩:=hcs j hj
  rcases hdist i hi j hj with h | h
  ·exact hne h
  ·exact h (by rw [hc,hc'];simp [hd i c hi hc,hd j c' hj hc',e])
 have hrd:∀ (i:Nat) (c:COper),i<k→cs[i]? =some c→∀ s∈c.reads,∀ j,j<k→d j=s→j<i∧j∈(ancs ops).getD i []:=fun i c hi hc s hs j hj hdj=>by
  have h1:=hreads i hi
  rw [hc] at h1
  simp only [List.all_eq_true,List.mem_range,Bool.or_eq_true,bne_iff_ne,ne_eq,Bool.and_eq_true,decide_eq_true_eq] at h1
  obtain ⟨c',hc'⟩:=hcs j hj
  rcases h1 s hs j hj with h | ⟨h2,h3⟩
  ·exact absurd (by rw [hc'];simp [hd j c' hj hc',hdj]) h
  ·exact ⟨h2,by simpa using h3⟩
 have hop:∀ i:Nat,i<k→∃ c s,cs[i]? =some c∧ss[i]? =some s∧ss[i+1]? =some (putE s (d i) (eff i))∧(∀ x,(eff i).al=some (.slot x)→x∈c.reads)∧((eff i).nb≠[]→i+1=k) ∧
  ∀ st2:St,(∀ x∈c.reads,look st2.sl x=look s.sl x)→(∃ z,st2.bx=s.bx++z)→(i+1=k→st2.bx=s.bx)→zer cf st2 c=some (putE st2 (d i) (eff i)):=fun i hi=>by
  obtain ⟨c,hc⟩:=hcs i hi
  obtain ⟨e,s,dd,q1,q2,q3,q4,q5,q6,q7⟩:=hss i c (by rw [List.getElem?_take_of_lt hi];exact hc)
  have h1:=hd i c hi hc
  rw [q3] at h1;cases h1
  have h2:=heff i e q1
  subst h2
  exact ⟨c,s,hc,q2,q4,q5,q6,q7⟩
 have hnb:∀ j,j<k→(eff j).nb≠[]→j+1=k:=fun j hj h=>by
  obtain ⟨_,_,_,_,_,_,h6,_⟩:=hop j hj
  exact h6 h
 have halx:∀ i,i<k→∀ j,j<k→∀ E:Nat→Prop,¬ E i→E j→(∀ x∈(ancs ops).getD j [],E x)→∀ L,(eff j).al=some L→ment (d i) L=false:=fun i hi j hj E hn hE hcl L hL=>by
  cases L with
  | cell b o=>rfl
  | slot x =>
    simp only [ment,beq_eq_false_iff_ne,ne_eq]
    intro e
    obtain ⟨c,s,hc,_,_,h5,_,_⟩:=hop j hj
    exact hn (hcl i (hrd j c hj hc x (h5 x hL) i hi e.symm).2)
 have hsat:∀ i:Nat,i≤k→∃ s,ss[i]? =some s∧Sat k d eff (fun j=>j<i) st0 s:=fun i=>by
  induction i with
  | zero=>exact fun _=>⟨st0,hs0,by have:=Sat.start (k:=k) (d:=d) (eff:=eff) hal;simpa using this⟩
  | succ i ih =>
    intro hi
    obtain ⟨s,h1,h2⟩:=ih (by omega)
    obtain ⟨c,s',hc,h3,h4,h5,_,_⟩:=hop i hi
    rw [h1] at h3;cases h3
    refine ⟨_,h4,?_⟩
    have:=h2.step hdd (i:=i) hi (by omega) hnb fun j hj hE L hL=>by
     cases L with
     | cell b o=>rfl
     | slot x =>
       simp only [ment,beq_eq_false_iff_ne,ne_eq]
       intro e
       obtain ⟨c',s'',hc',_,_,h6,_,_⟩:=hop j hj
       have:=(hrd j c' hj hc' x (h6 x hL) i hi e.symm).1
       omega
    have e:(fun j=>j<i∨j=i)=fun j=>j<i+1:=by funext j;apply propext;omega
    rw [e] at this;exact this
 have hsatk:Sat k d eff (fun j=>j<k) st0 stk:=by
  obtain ⟨s,h1,h2⟩:=hsat k (Nat.le_refl _)
  rw [hsk] at h1;cases h1;exact h2
 have htails:∀ m,k≤m→m≤ops.size→∃ s,zc0 cf ((cs.drop k).take (m - k)) stk=some s∧zc0 cf (cs.drop m) s=some stF:=by
  have split:∀ (l:List COper) (n:Nat) (s:St),zc0 cf l s=some stF→∃ s',zc0 cf (l.take n) s=some s'∧zc0 cf (l.drop n) s'=some stF:=by
   intro l
   induction l with
   | nil=>intro n s h;exact ⟨s,by simp [zc0],by simpa using h⟩
   | cons o l ih =>
     intro n s h
     cases n with
     | zero=>exact ⟨s,rfl,h⟩
     | succ n =>
       simp only [zc0] at h
       obtain ⟨s1,h1,h2⟩:=qb h
       obtain ⟨s',h3,h4⟩:=ih n s1 h2
       exact ⟨s',by simp only [List.take_succ_cons,zc0,h1,Option.bind_some];exact h3,h4⟩
  intro m hm hm2
  obtain ⟨s,h1,h2⟩:=split (cs.drop k) (m - k) stk htail
  refine ⟨s,h1,?_⟩
  rw [List.drop_drop] at h2
  rwa [show k+(m - k)=m by omega] at h2
 have evOps_append:∀ (l l':List COper) (s:St),zc0 cf (l++l') s=(zc0 cf l s).bind (zc0 cf l'):=by
  intro l
  induction l with
  | nil=>intro l' s;rfl
  | cons o l ih =>
    intro l' s
    simp only [List.cons_append,zc0]
    cases stepG cf s o with
    | none=>rfl
    | some s1=>simp only [Option.bind_some];exact ih l' s1
 have tailstep:∀ m,k≤m→m<ops.size→∀ s,zc0 cf ((cs.drop k).take (m - k)) stk=some s→∃ c s',cs[m]? =some c∧stepG cf s c=some s'∧zc0 cf ((cs.drop k).take (m+1 - k)) stk=some s':=fun m hm hm2 s hs=>by
  obtain ⟨s0,h1,h2⟩:=htails m hm (by omega)
  rw [hs] at h1;cases h1
  have hml:m<cs.length:=by omega
  rw [List.drop_eq_getElem_cons hml] at h2
  simp only [zc0] at h2
  obtain ⟨s',h3,h4⟩:=qb h2
  refine ⟨cs[m],s',qe hml,h3,?_⟩
  have:(cs.drop k).take (m+1 - k)=(cs.drop k).take (m - k)++[cs[m]]:=by
   rw [show m+1 - k=(m - k)+1 by omega,List.take_succ_eq_append_getElem (by rw [List.length_drop];omega)]
   congr 2
   rw [List.getElem_drop];congr 1;omega
  rw [this,evOps_append,hs]
  simp only [Option.bind_some,zc0,h3]
 have setd:∀ (listed:Array Bool) (i j:Nat),i<listed.size→((listed.setIfInBounds i true).getD j false=true ↔ (listed.getD j false=true∨j=i)):=fun listed i j hi=>by
  by_cases h:i=j
  ·subst h;simp [hi]
  ·rw [getD_set_ne false h]
   exact ⟨.inl,fun h'=>h'.resolve_right (Ne.symm h)⟩
 have full:∀ (E:Nat→Prop) (s:St) (a:Act) (w:World),Sat k d eff E st0 s→(∀ i,i<k→E i)→Rl P S s a w→Rl P S stk a w:=fun E s a w hs hE hr=>by
  refine hr.congr (fun x=>?_) (fun L hL=>?_) (fun q hq=>?_) ?_
  ·by_cases hx:∃ j,j<k∧d j=x
   ·obtain ⟨j,hj,rfl⟩:=hx
    rw [hsatk.e1 j hj hj,hs.e1 j hj (hE j hj)]
   ·have hx':∀ j,j<k→d j≠x:=fun j hj e=>hx ⟨j,hj,e⟩
    rw [hsatk.e2 x fun j hj _=>hx' j hj,hs.e2 x fun j hj _=>hx' j hj]
  ·refine (hs.e3 L).2 (((hsatk.e3 L).1 hL).imp ?_ ?_)
   ·rintro ⟨i,h1,h2,h3,h4⟩;exact ⟨i,h1,hE i h1,h3,h4⟩
   ·rintro ⟨h1,h2⟩;exact ⟨h1,fun i hi _=>h2 i hi hi⟩
  ·obtain ⟨i,h1,h2,h3,h4⟩:=(hsatk.e4 q).1 hq
   exact (hs.e4 q).2 ⟨i,h1,hE i h1,h3,h4⟩
  ·by_cases hx:∃ j,j<k∧(eff j).nb≠[]
   ·obtain ⟨j,hj,hj2⟩:=hx
    rw [hsatk.e6 j hj hj hj2,hs.e6 j hj (hE j hj) hj2]
   ·have hx':∀ j,j<k→(eff j).nb=[]:=fun j hj=>Classical.byContradiction fun h=>hx ⟨j,hj,h⟩
    rw [hsatk.e5 fun j hj _=>hx' j hj,hs.e5 fun j hj _=>hx' j hj]
 have fin:∀ (listed:Array Bool) (a:Act) (w:World),(∀ i,i<ops.size→listed.getD i false=true) →
  ((∃ s,Sat k d eff (fun j=>listed.getD j false=true) st0 s∧Rl P S s a w∧∀ i,k≤i→¬ listed.getD i false=true) ∨
    (∃ m s,k≤m∧m≤ops.size∧(∀ i,i<ops.size→(listed.getD i false=true ↔ i<m))∧zc0 cf ((cs.drop k).take (m - k)) stk=some s∧Rl P S s a w))→Q .normal a w:=fun listed a w hall h=>by
  rcases h with ⟨s,h1,h2,h3⟩ | ⟨m,s,h1,h2,h3,h4,h5⟩
  ·have hkn:ops.size≤k:=by
    rcases Nat.lt_or_ge k ops.size with h | h
    ·exact absurd (hall k h) (h3 k (Nat.le_refl _))
    ·exact h
   have h6:=full _ s a w h1 (fun i hi=>hall i (by omega)) h2
   have:cs.drop k=[]:=List.drop_eq_nil_iff.2 (by omega)
   rw [this] at htail
   simp only [zc0,Option.some.injEq] at htail
   subst htail
   exact hK a w h6
  ·have hmn:m=ops.size:=by
    rcases Nat.lt_or_ge m ops.size with h | h
    ·have:=(h3 m h).1 (hall m h);omega
    ·omega
   subst hmn
   rw [List.take_of_length_le (by rw [List.length_drop];omega),htail] at h4
   cases h4
   exact hK a w h5
 have main:∀ (fuel:Nat) (listed:Array Bool) (a:Act) (w:World),listed.size=ops.size→((List.range ops.size).filter fun i=>!listed.getD i false).length≤fuel →
  (∀ i,i<ops.size→listed.getD i false=true→∀ j∈zc9 ops i,listed.getD j false=true) →
  ((∃ s,Sat k d eff (fun j=>listed.getD j false=true) st0 s∧Rl P S s a w∧∀ i,k≤i→¬ listed.getD i false=true) ∨
    (∃ m s,k≤m∧m≤ops.size∧(∀ i,i<ops.size→(listed.getD i false=true ↔ i<m))∧zc0 cf ((cs.drop k).take (m - k)) stk=some s∧Rl P S s a w)) →
  wpAnyIn (fw r) 0 P .any ops Q fuel listed a w:=by
  intro fuel
  have rdy:∀ (listed:Array Bool) (i:Nat),listed.size=ops.size→(i∈Region.ready .any ops listed ↔ i<ops.size∧¬ listed.getD i false=true∧∀ j∈zc9 ops i,listed.getD j false=true):=fun listed i hz=>by
   rw [mem_ready]
   constructor
   ·rintro ⟨h1,o,ho,h2⟩
    have hi:=(Array.getElem?_eq_some_iff.1 ho).1
    refine ⟨hi,?_,fun j hj=>?_⟩
    ·rw [Array.getD_eq_getD_getElem?,Array.getElem?_eq_getElem (by omega)] at h1 ⊢
     simp at h1 ⊢;exact h1
    ·unfold zc9 at hj
     rw [ho] at hj
     obtain ⟨e,he,hj2⟩:=List.mem_filterMap.1 hj
     split at hj2
     ·rename_i hb;cases hj2;exact h2 e (by simpa using he) hb
     ·cases hj2
   ·rintro ⟨hi,h1,h2⟩
    refine ⟨?_,ops[i],Array.getElem?_eq_getElem hi,fun e he hb=>h2 _ ?_⟩
    ·rw [Array.getD_eq_getD_getElem?,Array.getElem?_eq_getElem (by omega)] at h1 ⊢
     simp at h1 ⊢;exact h1
    ·unfold zc9
     rw [Array.getElem?_eq_getElem hi]
     exact List.mem_filterMap.2 ⟨e,by simpa using he,by rw [if_pos hb]⟩
  have stuck:∀ listed:Array Bool,listed.size=ops.size→Region.ready .any ops listed=[]→∀ i,i<ops.size→listed.getD i false=true:=fun listed hz hrd i=>by
   induction i using Nat.strongRecOn with
   | _ i ih =>
     intro hi
     by_cases h:listed.getD i false=true
     ·exact h
     ·have:i∈Region.ready .any ops listed:=(rdy listed i hz).2 ⟨hi,h,fun j hj=>by
       have hlt:=hback i hi j hj
       exact ih j hlt (by omega)⟩
      rw [hrd] at this;cases this
  induction fuel with
  | zero =>
    intro listed a w hz hc _ hph
    have hall:∀ i,i<ops.size→listed.getD i false=true:=fun i hi=>by
     cases hb:listed.getD i false with
     | true=>rfl
     | false =>
       have hmem:i∈(List.range ops.size).filter fun i=>!listed.getD i false:=List.mem_filter.2 ⟨List.mem_range.2 hi,by rw [hb];rfl⟩
       have h0:(List.range ops.size).filter (fun i=>!listed.getD i false)=[]:=qz (by omega)
       rw [h0] at hmem;cases hmem
    refine ⟨?_,fin listed a w hall hph⟩
    cases hrl:Region.ready .any ops listed with
    | nil=>rfl
    | cons i r =>
      have:=(rdy listed i hz).1 (by rw [hrl];simp)
      exact absurd (hall i this.1) this.2.1
  | succ fuel ih =>
    intro listed a w hz hc hcl hph
    refine ⟨fun h=>fin listed a w (stuck listed hz h) hph,fun i hi=>?_⟩
    obtain ⟨hin,hnl,hdir⟩:=(rdy listed i hz).1 hi
    have hcl':∀ i,listed.getD i false=true→∀ j∈zc9 ops i,listed.getD j false=true:=fun i' h=>by
     by_cases hlt:i'<ops.size
     ·exact hcl i' hlt h
     ·rw [Array.getD_eq_getD_getElem?,Array.getElem?_eq_none (by omega)] at h;cases h
    have hanc:∀ x∈(ancs ops).getD i [],listed.getD x false=true:=ztr hcl' hin hdir
    have hz2:(listed.setIfInBounds i true).size=ops.size:=by simp [hz]
    have hcnt:((List.range ops.size).filter fun j=>!(listed.setIfInBounds i true).getD j false).length≤fuel:=by
     have e1:((List.range ops.size).filter fun j=>!(listed.setIfInBounds i true).getD j false)=((List.range ops.size).filter fun j=>!listed.getD j false).filter (· != i):=by
      rw [List.filter_filter]
      apply List.filter_congr
      intro j _
      have:=setd listed i j (by omega)
      by_cases hji:j=i
      ·subst hji
       have h1:(listed.setIfInBounds j true).getD j false=true:=this.2 (.inr rfl)
       rw [h1];simp
      ·rw [getD_set_ne false (Ne.symm hji)];simp [hji]
     have hmem:i∈(List.range ops.size).filter fun j=>!listed.getD j false:=List.mem_filter.2 ⟨List.mem_range.2 hin,by simpa using hnl⟩
     rw [e1]
     have:=List.length_filter_lt_length_iff_exists.2 (show ∃ x∈(List.range ops.size).filter (fun j=>!listed.getD j false),¬ ((x != i)=true) from ⟨i,hmem,by simp⟩)
     omega
    have hcl2:∀ i',i'<ops.size→(listed.setIfInBounds i true).getD i' false=true→∀ j∈zc9 ops i',(listed.setIfInBounds i true).getD j false=true:=fun i' hi' h j hj=>by
     rw [setd listed i _ (by omega)] at h ⊢
     rcases h with h | rfl
     ·exact .inl (hcl i' hi' h j hj)
     ·exact .inl (hdir j hj)
    have tailop:∀ m s,k≤m→m<ops.size→(∀ i,i<ops.size→(listed.getD i false=true ↔ i<m))→zc0 cf ((cs.drop k).take (m - k)) stk=some s→Rl P S s a w→wpOpIn (fw r) 0 P ops Q i (wpAnyIn (fw r) 0 P .any ops Q fuel (listed.setIfInBounds i true)) a w:=fun m s hm hm2 hl hev hrl=>by
     have him:i=m:=by
      have h1:¬ i<m:=fun h=>hnl ((hl i hin).2 h)
      rcases htl i (by omega) with h | h
      ·omega
      ·rcases Nat.lt_or_ge m i with h2 | h2
       ·have h3:=hanc m (by simpa using h m h2)
        have:=(hl m hm2).1 h3;omega
       ·omega
     subst him
     obtain ⟨c,s',h1,h2,h3⟩:=tailstep i hm hm2 s hev
     obtain ⟨o,ho,hcoo⟩:=hco i c h1
     refine zp0 ho (zkv hcf hS hcoo h2 hrl fun a' w' hr'=>ih _ a' w' hz2 hcnt hcl2 (.inr ⟨i+1,s',by omega,by omega,fun j hj=>?_,h3,hr'⟩))
     rw [setd listed i j (by omega),hl j hj];omega
    rcases hph with ⟨s,h1,h2,h3⟩ | ⟨m,s,h1,h2,h3,h4,h5⟩
    ·by_cases hik:i<k
     ·obtain ⟨c,si,hc1,hsi,_,hx,_,hloc⟩:=hop i hik
      obtain ⟨o,ho,hcoo⟩:=hco i c hc1
      obtain ⟨si',hsi',hsat'⟩:=hsat i (by omega)
      rw [hsi] at hsi';cases hsi'
      have hsib:si.bx=st0.bx:=hsat'.e5 fun j hj hji=>Classical.byContradiction fun h=>by
       have:=hnb j hj h;omega
      have hstep:=hloc s (fun x hxr=>by
       by_cases hx:∃ j,j<k∧d j=x
       ·obtain ⟨j,hj,rfl⟩:=hx
        obtain ⟨q1,q2⟩:=hrd i c hik hc1 _ hxr j hj rfl
        rw [h1.e1 j hj (hanc j q2),hsat'.e1 j hj q1]
       ·have hx':∀ j,j<k→d j≠x:=fun j hj e=>hx ⟨j,hj,e⟩
        rw [h1.e2 x fun j hj _=>hx' j hj,hsat'.e2 x fun j hj _=>hx' j hj]) (by
        rw [hsib]
        by_cases hx:∃ j,j<k∧listed.getD j false=true∧(eff j).nb≠[]
        ·obtain ⟨j,hj,hj1,hj2⟩:=hx
         exact ⟨_,h1.e6 j hj hj1 hj2⟩
        ·exact ⟨[],by rw [List.append_nil];exact h1.e5 fun j hj hj1=>Classical.byContradiction fun h=>hx ⟨j,hj,hj1,h⟩⟩) (fun hlast=>by
        rw [hsib]
        refine h1.e5 fun j hj hj1=>Classical.byContradiction fun h=>?_
        have:=hnb j hj h
        exact hnl ((show j=i by omega) ▸ hj1))
      have hnew:=h1.step hdd hik hnl hnb fun j hj hE L hL=>halx i hik j hj (fun j=>listed.getD j false=true) hnl hE (ztr hcl' (by omega) (hcl' j hE)) L hL
      refine zp0 ho (zkv hcf hS hcoo (ye0 hstep) h2 fun a' w' hr'=>ih _ a' w' hz2 hcnt hcl2 (.inl ⟨_,?_,hr',fun j hj hlj=>?_⟩))
      ·have e:(fun j=>(listed.setIfInBounds i true).getD j false=true)=fun j=>listed.getD j false=true∨j=i:=by
        funext j;exact propext (setd listed i j (by omega))
       rw [e];exact hnew
      ·rcases (setd listed i j (by omega)).1 hlj with h | h
       ·exact h3 j hj h
       ·omega
     ·
      have hall:∀ j,j<i→listed.getD j false=true:=fun j hj=>by
       rcases htl i (by omega) with h | h
       ·omega
       ·exact hanc j (by simpa using h j hj)
      have hki:i=k:=by
       rcases Nat.lt_or_ge k i with h | h
       ·exact absurd (hall k h) (h3 k (Nat.le_refl _))
       ·omega
      subst hki
      exact tailop i stk (Nat.le_refl _) hin (fun j hj=>⟨fun h=>by
       rcases Nat.lt_or_ge j i with h' | h'
       ·exact h'
       ·exact absurd h (h3 j h'),fun h=>hall j h⟩) (by simp [zc0]) (full _ s a w h1 hall h2)
    ·have hmn:m<ops.size:=by
      rcases Nat.lt_or_ge m ops.size with h | h
      ·exact h
      ·exact absurd ((h3 i hin).2 (by omega)) hnl
     exact tailop m s h1 hmn h3 h4 h5
 refine main ops.size _ a w (by simp) (Nat.le_trans (List.length_filter_le _ _) (by simp)) (fun i hi h=>by simp [hi] at h) (.inl ⟨st0,?_,hr,fun i hi h=>?_⟩)
 ·have h9:=Sat.start (k:=k) (d:=d) (eff:=eff) hal
  have e:(fun j=>(Array.replicate ops.size false).getD j false=true)=fun _=>False:=by
   funext j
   apply propext
   by_cases hj:j<ops.size<;>simp [hj]
  rw [e];exact h9
 ·by_cases hj:i<ops.size<;>simp [hj] at h
end
end Nun
namespace Nun
open Go Go.RowKit
def clr (D:List Nat):Loc→Bool
 | .slot i=>!D.contains i
 | .cell ..=>true
structure Part (N:Nat→Prop) (D:List Nat) (s1 s:St):Prop where
 sl:∀ x,¬ N x→look s1.sl x=look s.sl x
 ow:s1.ow.filter (clr D)=s.ow
 al:s1.al=s.al
 bx:s1.bx=s.bx
 no:∀ q∈s.al,q.1 ∉ D∧clr D q.2=true
 un:∀ x,x∈D→¬ N x→.slot x ∉ s1.ow
section
variable {N:Nat→Prop} {D:List Nat} {s1 s s':St} {cf:Callee}
theorem zga {i:Nat}:clr D (.slot i)=true ↔ i ∉ D:=by simp [clr]
theorem Part.own (h:Part N D s1 s) {L:Loc} (hL:∀ i,L=.slot i→¬ N i):L∈s1.ow ↔ L∈s.ow:=by
 rw [← h.ow,List.mem_filter]
 cases L with
 | cell b o=>simp [clr]
 | slot i =>
   rw [zga]
   constructor
   ·intro h1
    exact ⟨h1,fun hD=>h.un i hD (hL i rfl) h1⟩
   ·exact (·.1)
theorem Part.cells (h:Part N D s1 s):s1.ow.filter zah=s.ow.filter zah:=by
 rw [← h.ow,List.filter_filter]
 apply List.filter_congr
 intro L _
 cases L<;>simp [clr,zah]
theorem zbi {d:Nat} (l:List Loc):(zag d l).filter (clr D)=zag d (l.filter (clr D)):=by
 unfold zag
 rw [List.filter_filter,List.filter_filter]
 apply List.filter_congr
 intro L _
 exact Bool.and_comm _ _
theorem zhk (p:Loc→Bool) (l:List Loc):(l.filter p).filter (clr D)=(l.filter (clr D)).filter p:=by
 rw [List.filter_filter,List.filter_filter]
 apply List.filter_congr
 intro L _
 exact Bool.and_comm _ _
theorem zdj {L:Loc} (h:clr D L=true) (l:List Loc):(L::l).filter (clr D)=L::l.filter (clr D):=by rw [List.filter_cons,if_pos h]
theorem zg4 {b:Nat}:∀ (o:Nat) (l:List PV),∀ L∈za5 b o l,zah L=true
 | _,[],L,h=>by simp [za5] at h
 | o,p::r,L,h=>by
   simp only [za5] at h
   split at h
   ·rcases List.mem_cons.1 h with rfl | h
    ·rfl
    ·exact zg4 (o+1) r L h
   ·exact zg4 (o+1) r L h
theorem zhl {b o:Nat} {l:List PV} (m:List Loc):(za5 b o l++m).filter (clr D)=za5 b o l++m.filter (clr D):=by
 rw [List.filter_append]
 congr 1
 refine List.filter_eq_self.2 fun L hL=>?_
 have:=zg4 o l L hL
 cases L with
 | slot i=>cases this
 | cell=>rfl
theorem zdu {d:Nat} {l:List Loc} {L:Loc}:L∈zag d l→L∈l:=fun h=>(List.mem_filter.1 h).1
theorem Part.mk' (h:Part N D s1 s) {d:Nat} {v:PV} (hd:d ∉ D) {ow1 ow:List Loc} {al:List (Nat × Loc)} {bx:zao} (how:ow1.filter (clr D)=ow) (hal:∀ q∈al,q.1 ∉ D∧clr D q.2=true) (hun:∀ x,x∈D→¬ N x→.slot x ∉ ow1) :
 Part N D ⟨(d,v)::s1.sl,ow1,al,bx⟩ ⟨(d,v)::s.sl,ow,al,bx⟩ :=
 ⟨fun x hx=>by simp only [za2];split;rfl;exact h.sl x hx,how,rfl,rfl,hal,hun⟩
theorem Part.mk0 (h:Part N D s1 s) {ow1 ow:List Loc} {al:List (Nat × Loc)} {bx:zao} (how:ow1.filter (clr D)=ow) (hal:∀ q∈al,q.1 ∉ D∧clr D q.2=true) (hun:∀ x,x∈D→¬ N x→.slot x ∉ ow1) :
 Part N D ⟨s1.sl,ow1,al,bx⟩ ⟨s.sl,ow,al,bx⟩ :=
 ⟨h.sl,how,rfl,rfl,hal,hun⟩
theorem Part.noDrop (h:Part N D s1 s) (d:Nat):∀ q∈za8 d s.al,q.1 ∉ D∧clr D q.2=true:=fun q hq=>h.no q (List.mem_filter.1 hq).1
theorem Part.put (h:Part N D s1 s) {d:Nat} (hd:d ∉ D) (v:PV):Part N D (s1.put d v) (s.put d v):=by
 have:=h.mk' (v:=v) hd (ow1:=zag d s1.ow) (ow:=zag d s.ow) (al:=za8 d s.al) (bx:=s.bx) (by rw [zbi,h.ow]) (h.noDrop d) fun x h1 h2 h3=>h.un x h1 h2 (zdu h3)
 unfold St.put
 rw [h.al,h.bx];exact this
theorem zts {d:Nat} (hd:d ∉ D) {l:List Loc} (h:∀ x,x∈D→¬ N x→.slot x ∉ l):∀ x,x∈D→¬ N x→.slot x ∉ (.slot d::l:List Loc):=fun x h1 h2 h3=>by
 rcases List.mem_cons.1 h3 with e | h3
 ·cases e;exact hd h1
 ·exact h x h1 h2 h3
theorem ye1 {b o:Nat} {l:List Loc} (h:∀ x,x∈D→¬ N x→.slot x ∉ l):∀ x,x∈D→¬ N x→.slot x ∉ (.cell b o::l:List Loc):=fun x h1 h2 h3=>by
 rcases List.mem_cons.1 h3 with e | h3
 ·cases e
 ·exact h x h1 h2 h3
theorem z3k {b o:Nat} {ps:List PV} {l:List Loc} (h:∀ x,x∈D→¬ N x→.slot x ∉ l):∀ x,x∈D→¬ N x→.slot x ∉ (za5 b o ps++l):=fun x h1 h2 h3=>by
 rcases List.mem_append.1 h3 with h3 | h3
 ·have:=zg4 o ps _ h3;cases this
 ·exact h x h1 h2 h3
theorem Part.putOwn (h:Part N D s1 s) {d:Nat} (hd:d ∉ D) (v:PV):Part N D (s1.putOwn d v) (s.putOwn d v):=by
 have:=h.mk' (v:=v) hd (ow1:=.slot d::zag d s1.ow) (ow:=.slot d::zag d s.ow) (al:=za8 d s.al) (bx:=s.bx) (by rw [zdj (zga.2 hd),zbi,h.ow]) (h.noDrop d)
  (zts hd fun x h1 h2 h3=>h.un x h1 h2 (zdu h3))
 unfold St.putOwn
 rw [h.al,h.bx];exact this
theorem Part.putD (h:Part N D s1 s) {d:Option Nat} (hd:∀ x,d=some x→x ∉ D) (v:PV):Part N D (s1.putD d v) (s.putD d v):=by
 cases d with
 | none=>exact h
 | some d=>exact h.put (hd d rfl) v
theorem Part.callBx (h:Part N D s1 s) {d:Option Nat} (hd:∀ x,d=some x→x ∉ D) {f:FuncId} {az:List PV} (hs:Nun.callBx cf s d f az=some s'):∃ s1',Nun.callBx cf s1 d f az=some s1'∧Part N D s1' s':=by
 unfold Nun.callBx at hs ⊢
 rw [h.cells,h.bx]
 obtain ⟨⟨vs,os,bx,oc⟩,h1,rfl⟩:=qm hs
 rw [h1]
 refine ⟨_,rfl,?_⟩
 have hp:Part N D ⟨s1.sl,oc.filter zah++s1.ow.filter (fun L=>!zah L),s1.al.filter fun p=>!zah p.2,bx⟩ ⟨s.sl,oc.filter zah++s.ow.filter (fun L=>!zah L),s.al.filter fun p=>!zah p.2,bx⟩:=by
  rw [h.al]
  refine h.mk0 ?_ (fun q hq=>h.no q (List.mem_filter.1 hq).1) fun x h1 h2 h3=>?_
  ·rw [List.filter_append,zhk (fun L=>!zah L),h.ow]
   congr 1
   refine List.filter_eq_self.2 fun L hL=>?_
   have:=(List.mem_filter.1 hL).2
   cases L with
   | slot i=>cases this
   | cell=>rfl
  ·rcases List.mem_append.1 h3 with h3 | h3
   ·have:=(List.mem_filter.1 h3).2;cases this
   ·exact h.un x h1 h2 (List.mem_filter.1 h3).1
 cases d with
 | none=>exact hp
 | some d =>
   cases os
   ·exact hp.put (hd d rfl) _
   ·exact hp.putOwn (hd d rfl) _
theorem Part.callSt (h:Part N D s1 s) {d:Option Nat} (hd:∀ x,d=some x→x ∉ D) {f:FuncId} {az:List PV} (hs:Nun.callSt cf s d f az=some s'):∃ s1',Nun.callSt cf s1 d f az=some s1'∧Part N D s1' s':=by
 unfold Nun.callSt at hs ⊢
 split at hs
 ·rename_i hn
  rw [if_pos hn]
  obtain ⟨⟨vs,os,bx,oc⟩,h1,h2⟩:=qb hs
  rw [h1,Option.bind_some]
  dsimp only at h2 ⊢
  split at h2
  ·rename_i hv
   rw [if_pos hv]
   cases d with
   | none=>cases h2;exact ⟨_,rfl,h⟩
   | some d =>
     cases os
     ·cases h2;exact ⟨_,rfl,h.put (hd d rfl) _⟩
     ·cases h2;exact ⟨_,rfl,h.putOwn (hd d rfl) _⟩
  ·rename_i hv
   rw [if_neg hv]
   exact h.callBx hd h2
 ·rename_i hn
  rw [if_neg hn]
  exact h.callBx hd hs
theorem Part.xev (h:Part N D s1 s) {x:X} (hx:∀ i∈x.slots,¬ N i):x.ev s1.sl=x.ev s.sl:=zpy fun i hi=>h.sl i (hx i hi)
theorem Part.origin (h:Part N D s1 s) {t:Nat} (ht:¬ N t):Nun.origin s1 t=Nun.origin s t:=by
 unfold Nun.origin
 have:=h.own (L:=.slot t) fun i e=>by cases e;exact ht
 simp only [this,h.al]
theorem Part.pvAt (h:Part N D s1 s) (hND:∀ x,N x→x∈D) {t:Nat} (ht:¬ N t) {L:Loc} (hL:Nun.origin s t=some L):Nun.pvAt s1 L=Nun.pvAt s L∧(L∈s1.ow ↔ L∈s.ow)∧∀ i,L=.slot i→¬ N i:=by
 have hn:∀ i,L=.slot i→¬ N i:=fun i e=>by
  unfold Nun.origin at hL
  split at hL
  ·cases hL;cases e;exact ht
  ·obtain ⟨q,h1,rfl⟩:=qm hL
   have:=(h.no q (List.mem_of_find?_eq_some h1)).2
   rw [e,zga] at this
   exact fun hN=>this (hND i hN)
 refine ⟨?_,h.own hn,hn⟩
 cases L with
 | slot i=>simp only [Nun.pvAt];rw [h.sl i (hn i rfl)]
 | cell b o=>simp only [Nun.pvAt,h.bx]
def ye2:COp→Option Nat
 | .mvA s=>some s
 | _=>none
theorem z9d (h:Part N D s1 s) (hND:∀ x,N x→x∈D) {d:Option Nat} (hd:∀ x,d=some x→x ∉ D) {c:COp} (hr:∀ x∈c.xs,∀ i∈x.slots,¬ N i) (ha:∀ i,ye2 c=some i→i ∉ D) (hs:zaa cf s d c=some s'):∃ s1',zaa cf s1 d c=some s1'∧Part N D s1' s':=by
 have hx:∀ x∈c.xs,x.ev s1.sl=x.ev s.sl:=fun x hx=>h.xev (hr x hx)
 by_cases hp:zfj c=true
 ·rw [zc4 hp] at hs ⊢
  rw [zi0 hx]
  obtain ⟨p,h1,rfl⟩:=qm hs
  rw [h1]
  exact ⟨_,rfl,h.putD hd p⟩
 cases c<;>try (exact absurd rfl hp)
 case mvA x =>
  simp only [zaa] at hs ⊢
  obtain ⟨d,rfl,h2⟩:=qb hs
  split at h2
  ·cases h2
  ·rename_i hxd
   cases h2
   have hlx:look s1.sl x=look s.sl x:=hx (.t x) (by simp [COp.xs])
   refine ⟨_,by rw [Option.bind_some,if_neg hxd],?_⟩
   unfold St.put
   dsimp only
   rw [hlx,h.al,h.bx]
   refine h.mk' (hd d rfl) (by rw [zbi,h.ow]) (fun q hq=>?_) fun y h1 h2 h3=>h.un y h1 h2 (zdu h3)
   rcases List.mem_cons.1 hq with rfl | hq
   ·exact ⟨hd d rfl,zga.2 (ha x rfl)⟩
   ·exact h.noDrop d q hq
 case asg x =>
  cases x with
  | c v=>exact absurd rfl hp
  | t i =>
    have hi:¬ N i:=hr (.t i) (by simp [COp.xs]) i (by simp [X.slots])
    have hlx:look s1.sl i=look s.sl i:=h.sl i hi
    have hown:=h.own (L:=.slot i) fun j e=>by cases e;exact hi
    simp only [zaa] at hs ⊢
    cases d with
    | none=>cases hs
    | some d =>
      dsimp only at hs ⊢
      split at hs
      ·cases hs
      ·rename_i hid
       rw [if_neg hid]
       split at hs
       ·rename_i ho
        cases hs
        rw [if_pos (hown.2 ho)]
        refine ⟨_,rfl,?_⟩
        rw [hlx,h.al,h.bx]
        refine h.mk' (hd d rfl) (by rw [zdj (zga.2 (hd d rfl)),zbi,zbi,h.ow]) (fun q hq=>h.no q (List.mem_filter.1 (List.mem_filter.1 hq).1).1) (zts (hd d rfl) fun y h1 h2 h3=>h.un y h1 h2 (zdu (zdu h3)))
       ·rename_i ho
        cases hs
        rw [if_neg fun k=>ho (hown.1 k),hlx]
        exact ⟨_,rfl,h.put (hd d rfl) _⟩
 case alloc e zs =>
  simp only [zaa] at hs ⊢
  obtain ⟨d,rfl,rfl⟩:=qm hs
  refine ⟨_,rfl,?_⟩
  unfold St.put
  dsimp only
  rw [h.al,h.bx]
  exact h.mk' (hd d rfl) (by rw [zhl,zbi,h.ow]) (h.noDrop d) (z3k fun y h1 h2 h3=>h.un y h1 h2 (zdu h3))
 case box e n x =>
  have hxx:=hx x (by simp [COp.xs])
  simp only [zaa] at hs ⊢
  obtain ⟨d,rfl,h2⟩:=qb hs
  split at h2
  ·rename_i hc
   cases h2
   refine ⟨_,by rw [Option.bind_some,hxx,if_pos hc],?_⟩
   unfold St.put
   dsimp only
   rw [h.al,h.bx]
   exact h.mk' (hd d rfl) (by rw [zhl,zbi,h.ow]) (h.noDrop d) (z3k fun y h1 h2 h3=>h.un y h1 h2 (zdu h3))
  ·cases h2
 case mksl by0 n size zs ps =>
  simp only [zaa] at hs ⊢
  obtain ⟨d,rfl,h2⟩:=qb hs
  obtain ⟨cs,h1,h3⟩:=qb h2
  have:(ps.map fun q=>(q.1,q.2.1,q.2.2.ev s1.sl))=ps.map fun q=>(q.1,q.2.1,q.2.2.ev s.sl):=List.map_congr_left fun q hq=>by rw [hx q.2.2 (List.mem_map.2 ⟨q,hq,rfl⟩)]
  split at h3
  ·rename_i hc
   cases h3
   refine ⟨_,by rw [Option.bind_some,this,h1,Option.bind_some,if_pos hc],h.putOwn (hd d rfl) _⟩
  ·cases h3
 case b2s x =>
  simp only [zaa] at hs ⊢
  obtain ⟨p,h1,rfl⟩:=qm hs
  rw [hx x (by simp [COp.xs]),h.bx,h1]
  exact ⟨_,rfl,h.putD hd p⟩
 case load ag n x =>
  simp only [zaa] at hs ⊢
  obtain ⟨d,rfl,h2⟩:=qb hs
  obtain ⟨p,h1,rfl⟩:=qm h2
  rw [hx x (by simp [COp.xs]),h.bx,h1]
  exact ⟨_,rfl,h.put (hd d rfl) p⟩
 case loadA x =>
  have hxx:=hx x (by simp [COp.xs])
  simp only [zaa] at hs ⊢
  obtain ⟨d,rfl,h2⟩:=qb hs
  split at h2
  ·rename_i b o e
   obtain ⟨p,h1,rfl⟩:=qm h2
   rw [hxx,e,h.bx]
   refine ⟨_,by simp only [Option.bind_some,h1,Option.map_some];rfl,?_⟩
   unfold St.put
   dsimp only
   rw [h.al,h.bx]
   refine h.mk' (hd d rfl) (by rw [zbi,h.ow]) (fun q hq=>?_) fun y h1 h2 h3=>h.un y h1 h2 (zdu h3)
   rcases List.mem_cons.1 hq with rfl | hq
   ·exact ⟨hd d rfl,rfl⟩
   ·exact h.noDrop d q hq
  ·cases h2
 case loadM x =>
  have hxx:=hx x (by simp [COp.xs])
  simp only [zaa] at hs ⊢
  obtain ⟨d,rfl,h2⟩:=qb hs
  split at h2
  ·rename_i b o e
   obtain ⟨p,h1,h2⟩:=qb h2
   split at h2
   case isFalse=>cases h2
   rename_i hc
   cases h2
   rw [hxx,e,h.bx]
   refine ⟨_,by simp only [Option.bind_some,h1];rw [if_pos ((h.own (L:=.cell b o) fun i e=>by cases e).2 hc)],?_⟩
   unfold St.put
   dsimp only
   rw [h.bx]
   refine h.mk' (hd d rfl) (by rw [zdj (zga.2 (hd d rfl)),zhk,zbi,h.ow]) (fun q hq=>by cases hq) fun y h1 h2 h3=>?_
   rcases List.mem_cons.1 h3 with h3 | h3
   ·cases h3;exact hd _ rfl h1
   ·exact h.un y h1 h2 (zdu (List.mem_filter.1 h3).1)
  ·cases h2
 case store n a x =>
  have hxa:=hx a (by simp [COp.xs])
  have hxx:=hx x (by simp [COp.xs])
  simp only [zaa] at hs ⊢
  split at hs
  ·rename_i b o e
   rw [hxa,hxx,h.bx]
   try rw [e]
   try dsimp only
   obtain ⟨q,h1,h2⟩:=qb hs
   rw [h1,Option.bind_some]
   split at h2
   ·rename_i hc
    rw [if_pos hc]
    have halq:∀ q∈s.al.filter (fun p=>!zeq b o n p.2),q.1 ∉ D∧clr D q.2=true:=fun q hq=>h.no q (List.mem_filter.1 hq).1
    have how:(za5 b o (x.ev s.sl).cells++s1.ow.filter fun L=>!zeq b o n L).filter (clr D)=za5 b o (x.ev s.sl).cells++s.ow.filter fun L=>!zeq b o n L:=by rw [zhl,zhk,h.ow]
    have hun:∀ y,y∈D→¬ N y→.slot y ∉ (za5 b o (x.ev s.sl).cells++s1.ow.filter fun L=>!zeq b o n L):=z3k fun y h1 h2 h3=>h.un y h1 h2 (List.mem_filter.1 h3).1
    cases x with
    | c v =>
      cases h2
      refine ⟨_,rfl,?_⟩
      rw [h.al]
      exact h.mk0 how halq hun
    | t i =>
      have hi:¬ N i:=hr (.t i) (by simp [COp.xs]) i (by simp [X.slots])
      have hown:=h.own (L:=.slot i) fun j e=>by cases e;exact hi
      dsimp only at h2 ⊢
      split at h2
      ·rename_i ho
       cases h2
       rw [if_pos (hown.2 ho)]
       refine ⟨_,rfl,?_⟩
       rw [h.al]
       exact h.mk0 (by rw [zdj rfl,zbi,how]) (fun q hq=>halq q (List.mem_filter.1 hq).1) (ye1 fun y h1 h2 h3=>hun y h1 h2 (zdu h3))
      ·rename_i ho
       cases h2
       rw [if_neg fun k=>ho (hown.1 k)]
       refine ⟨_,rfl,?_⟩
       rw [h.al]
       exact h.mk0 how halq hun
   ·cases h2
  ·cases hs
 case append by0 size x y =>
  have hxx:=hx x (by simp [COp.xs])
  have hxy:=hx y (by simp [COp.xs])
  simp only [zaa] at hs ⊢
  rw [hxx,hxy]
  split at hs
  ·rename_i hn
   rw [if_pos hn]
   split at hs
   ·rename_i m ds e
    try rw [e]
    try dsimp only
    split at hs
    ·rename_i hc
     rw [if_pos hc]
     obtain ⟨d,rfl,rfl⟩:=qm hs
     refine ⟨_,rfl,?_⟩
     dsimp only
     split
     ·exact h.put (hd d rfl) _
     ·exact h.putOwn (hd d rfl) _
    ·cases hs
   ·cases hs
  ·rename_i hn
   rw [if_neg hn]
   cases x with
   | c v=>cases hs
   | t i =>
     have hi:¬ N i:=hr (.t i) (by simp [COp.xs]) i (by simp [X.slots])
     dsimp only at hs ⊢
     obtain ⟨L,h1,hs⟩:=qb hs
     obtain ⟨d,rfl,hs⟩:=qb hs
     obtain ⟨k1,k2,k3⟩:=h.pvAt hND hi h1
     rw [h.origin hi,h1,Option.bind_some,Option.bind_some,k1]
     split at hs
     ·rename_i n cs m ds e1 e2
      try rw [e1,e2]
      try dsimp only
      split at hs
      ·rename_i hc
       cases hs
       obtain ⟨c1,c2,c3,c4,c5⟩:=hc
       refine ⟨_,by rw [if_pos ⟨c1,c2,c3,k2.2 c4,c5⟩],?_⟩
       rw [h.al,h.bx]
       exact h.mk' (hd d rfl) (by rw [zdj (zga.2 (hd d rfl)),zbi,zhk,h.ow]) (fun q hq=>h.no q (List.mem_filter.1 (List.mem_filter.1 hq).1).1) (zts (hd d rfl) fun y h1 h2 h3=>h.un y h1 h2 (List.mem_filter.1 (zdu h3)).1)
      ·cases hs
     ·cases hs
 case appendS x y =>
  have hxx:=hx x (by simp [COp.xs])
  have hxy:=hx y (by simp [COp.xs])
  simp only [zaa] at hs ⊢
  rw [hxx,hxy]
  split at hs
  ·rename_i hn
   rw [if_pos hn]
   split at hs
   ·rename_i z e
    try rw [e]
    try dsimp only
    split at hs
    ·rename_i hc
     rw [if_pos hc]
     obtain ⟨d,rfl,rfl⟩:=qm hs
     refine ⟨_,rfl,?_⟩
     dsimp only
     split
     ·exact h.put (hd d rfl) _
     ·exact h.putOwn (hd d rfl) _
    ·cases hs
   ·cases hs
  ·rename_i hn
   rw [if_neg hn]
   cases x with
   | c v=>cases hs
   | t i =>
     have hi:¬ N i:=hr (.t i) (by simp [COp.xs]) i (by simp [X.slots])
     dsimp only at hs ⊢
     obtain ⟨L,h1,hs⟩:=qb hs
     obtain ⟨d,rfl,hs⟩:=qb hs
     obtain ⟨k1,k2,k3⟩:=h.pvAt hND hi h1
     rw [h.origin hi,h1,Option.bind_some,Option.bind_some,k1]
     split at hs
     ·rename_i n cs z e1 e2
      try rw [e1,e2]
      try dsimp only
      split at hs
      ·rename_i hc
       cases hs
       obtain ⟨c1,c2,c3,c4⟩:=hc
       refine ⟨_,by rw [if_pos ⟨c1,c2,k2.2 c3,c4⟩],?_⟩
       rw [h.al,h.bx]
       exact h.mk' (hd d rfl) (by rw [zdj (zga.2 (hd d rfl)),zbi,zhk,h.ow]) (fun q hq=>h.no q (List.mem_filter.1 (List.mem_filter.1 hq).1).1) (zts (hd d rfl) fun y h1 h2 h3=>h.un y h1 h2 (List.mem_filter.1 (zdu h3)).1)
      ·cases hs
     ·cases hs
 case call f args =>
  have:(args.map fun x=>(x.ev s1.sl).weak)=args.map fun x=>(x.ev s.sl).weak:=List.map_congr_left fun x h=>by rw [hx x h]
  simp only [zaa] at hs ⊢
  rw [this]
  exact h.callSt hd hs
 case callv g args =>
  have:(args.map fun x=>(x.ev s1.sl).weak)=args.map fun x=>(x.ev s.sl).weak:=List.map_congr_left fun x h=>by rw [hx x (List.mem_cons_of_mem _ h)]
  simp only [zaa] at hs ⊢
  rw [this,hx g (by simp [COp.xs])]
  split at hs
  ·rename_i f caps e
   try rw [e]
   try dsimp only
   split at hs
   ·cases hs
   ·rename_i hf
    rw [if_neg hf]
    exact h.callSt hd hs
  ·rename_i b e
   try rw [e]
   exact h.callBx hd hs
  ·cases hs
theorem frame (h:Part N D s1 s) (hND:∀ x,N x→x∈D) {o:COper} (hd:∀ x,o.dst=some x→x ∉ D) (hr:∀ i∈o.reads,¬ N i) (ha:∀ i,ye2 o.op=some i→i ∉ D) (hs:stepG cf s o=some s'):∃ s1',stepG cf s1 o=some s1'∧Part N D s1' s':=by
 have hg:zbp s1 o.g=zbp s o.g:=by
  cases hq:o.g with
  | none=>rfl
  | some q =>
    obtain ⟨i,w⟩:=q
    simp only [zbp]
    rw [h.sl i (hr i (by simp [COper.reads,hq]))]
 unfold stepG at hs ⊢
 rw [hg]
 obtain ⟨b,h1,h2⟩:=qb hs
 rw [h1,Option.bind_some]
 cases b with
 | false =>
   simp only [Bool.false_eq_true,if_false,Option.some.injEq] at h2 ⊢
   subst h2
   exact ⟨_,rfl,h.putD hd _⟩
 | true =>
   simp only [if_true] at h2 ⊢
   exact z9d h hND hd (fun x hx i hi=>hr i (by simp only [COper.reads];exact List.mem_append.2 (.inl (List.mem_flatMap.2 ⟨x,hx,hi⟩)))) ha h2
end
def memK:COp→Bool
 | .load ..=>true
 | _=>false
def zu4 (qs:List FuncId):COp→Bool
 | .call f _=>qs.contains f
 | _=>false
def preK (qs:List FuncId) (c:COp):Bool:=zfj c || (memK c || zu4 qs c)
def zy4:COp→Bool
 | .store .. | .call .. | .callv .. | .alloc .. | .box .. | .loadA .. | .loadM .. | .append .. | .appendS ..=>true
 | _=>false
def wrK:COp→Bool
 | .store .. | .call .. | .callv ..=>true
 | _=>false
section
variable {cf:Callee} {st st' stk:St}
def z9e (st st2:St) (c:COp):Prop:=(memK c=true→∃ z,st2.bx=st.bx++z)∧(zfj c=false→memK c=false→st2.bx=st.bx∧st2.ow.filter zah=st.ow.filter zah∧∀ q∈st2.al,zah q.2=false)
structure Says (s s':St):Prop where
 sl:∀ x,look s'.sl x=look s.sl x
 ow:∀ L,L∈s.ow→L∈s'.ow
 al:∀ q,q∈s.al→q∈s'.al
 bx:s'.bx=s.bx
theorem Says.rfl' (s:St):Says s s:=⟨fun _=>rfl,fun _ h=>h,fun _ h=>h,rfl⟩
theorem zp1 {d:Nat} {f:FuncId} {az:List PV} {st2:St} (h:callBx cf st (some d) f az=some st') (hb:st'.bx=st.bx) (hc:st'.ow.filter zah=st.ow.filter zah) (h1:st2.bx=st.bx) (h2:st2.ow.filter zah=st.ow.filter zah) (h3:∀ q∈st2.al,zah q.2=false) :
 ∃ s',callBx cf st2 (some d) f az=some s'∧Says (st2.put d (look st'.sl d)) s':=by
 unfold callBx at h ⊢
 rw [h1,h2]
 obtain ⟨⟨vs,os,bx,oc⟩,k1,rfl⟩:=qm h
 rw [k1]
 refine ⟨_,rfl,?_⟩
 have hbx:bx=st.bx:=by cases os<;>exact hb
 have hoc:oc.filter zah=st.ow.filter zah:=by
  rw [← hc]
  have e1:∀ l:List Loc,(zag d l).filter zah=l.filter zah:=fun l=>by
   unfold zag
   rw [List.filter_filter]
   apply List.filter_congr
   intro L _
   cases L<;>simp [zah,ment]
  have e2:(oc.filter zah++st.ow.filter (fun L=>!zah L)).filter zah=oc.filter zah:=by
   rw [List.filter_append,List.filter_filter,List.filter_filter]
   have:st.ow.filter (fun L=>zah L && !zah L)=[]:=List.filter_eq_nil_iff.2 fun L _=>by simp
   rw [this,List.append_nil]
   apply List.filter_congr
   intro L _
   simp
  cases os
  ·show _=(zag d _).filter zah
   rw [e1,e2]
  ·show _=(.slot d::zag d _:List Loc).filter zah
   rw [List.filter_cons,if_neg (by simp [zah]),e1,e2]
 have how:∀ L,L∈zag d st2.ow→L∈zag d (oc.filter zah++st2.ow.filter fun L=>!zah L):=fun L hL=>by
  unfold zag at hL ⊢
  obtain ⟨m1,m2⟩:=List.mem_filter.1 hL
  refine List.mem_filter.2 ⟨List.mem_append.2 ?_,m2⟩
  cases hcL:zah L with
  | true=>left;rw [hoc,← h2];exact List.mem_filter.2 ⟨m1,hcL⟩
  | false=>right;exact List.mem_filter.2 ⟨m1,by rw [hcL];rfl⟩
 have hal:∀ q,q∈za8 d st2.al→q∈za8 d (st2.al.filter fun p=>!zah p.2):=fun q hq=>by
  unfold za8 at hq ⊢
  obtain ⟨m1,m2⟩:=List.mem_filter.1 hq
  exact List.mem_filter.2 ⟨List.mem_filter.2 ⟨m1,by rw [h3 q m1];rfl⟩,m2⟩
 cases os
 ·exact ⟨fun x=>by simp [St.put,za2],how,hal,by simp only [St.put];rw [hbx,h1];rfl⟩
 ·exact ⟨fun x=>by simp [St.put,St.putOwn,za2],fun L hL=>List.mem_cons_of_mem _ (how L hL),hal,by simp only [St.put,St.putOwn];rw [hbx,h1];rfl⟩
theorem zxm {d:Nat} {f:FuncId} {az:List PV} {st2:St} (h:callSt cf st (some d) f az=some st') (hb:st'.bx=st.bx) (hc:st'.ow.filter zah=st.ow.filter zah) (h1:st2.bx=st.bx) (h2:st2.ow.filter zah=st.ow.filter zah) (h3:∀ q∈st2.al,zah q.2=false) :
 ∃ s',callSt cf st2 (some d) f az=some s'∧Says (st2.put d (look st'.sl d)) s':=by
 unfold callSt at h ⊢
 split at h
 ·rename_i hn
  rw [if_pos hn]
  obtain ⟨⟨vs,os,bx,oc⟩,k1,k2⟩:=qb h
  rw [k1,Option.bind_some]
  dsimp only at k2 ⊢
  split at k2
  ·rename_i hv
   rw [if_pos hv]
   refine ⟨_,rfl,?_⟩
   cases k2
   cases os
   ·exact ⟨fun x=>by simp [St.put,za2],fun L h=>h,fun q h=>h,rfl⟩
   ·exact ⟨fun x=>by simp [St.put,St.putOwn,za2],fun L h=>List.mem_cons_of_mem _ h,fun q h=>h,rfl⟩
  ·rename_i hv
   rw [if_neg hv]
   exact zp1 k2 hb hc h1 h2 h3
 ·rename_i hn
  rw [if_neg hn]
  exact zp1 h hb hc h1 h2 h3
theorem z3l {qs:List FuncId} {o:COper} {d:Nat} (hk:preK qs o.op=true) (hd:o.dst=some d) (h:zdn cf st o=some st') :
 ∃ p,st'=st.put d p∧∀ st2:St,(∀ x∈o.reads,look st2.sl x=look st.sl x)→z9e st st2 o.op→∃ s',stepG cf st2 o=some s'∧Says (st2.put d p) s':=by
 obtain ⟨dst,g,c⟩:=o
 dsimp only at hk hd
 subst hd
 have hg2:∀ b,zbp st g=some b→∀ st2:St,(∀ s∈(COper.mk (some d) g c).reads,look st2.sl s=look st.sl s)→zbp st2 g=some b:=fun b hb st2 h=>by
  rw [← hb]
  cases g with
  | none=>rfl
  | some q =>
    obtain ⟨s,want⟩:=q
    simp only [zbp]
    rw [h s (by simp [COper.reads])]
 have hx:∀ st2:St,(∀ s∈(COper.mk (some d) g c).reads,look st2.sl s=look st.sl s)→∀ x∈c.xs,x.ev st2.sl=x.ev st.sl:=fun st2 h=>zpz fun s hs=>h s (by simp only [COper.reads];exact List.mem_append.2 (.inl hs))
 by_cases hp:zfj c=true
 ·have hs:stepG cf st ⟨some d,g,c⟩=some st':=by
   unfold zdn at h
   cases c<;>first | exact h | (cases hp;done)
  unfold stepG at hs
  obtain ⟨b,hb,h2⟩:=qb hs
  dsimp only at hb h2
  cases b with
  | false =>
    simp only [Bool.false_eq_true,if_false,Option.some.injEq] at h2
    subst h2
    exact ⟨.tup [],rfl,fun st2 hr _=>⟨_,by unfold stepG;simp only [hg2 _ hb st2 hr,Option.bind_some,Bool.false_eq_true,if_false];rfl,Says.rfl' _⟩⟩
  | true =>
    simp only [if_true] at h2
    rw [zc4 hp] at h2
    obtain ⟨p,h3,rfl⟩:=qm h2
    refine ⟨p,rfl,fun st2 hr _=>⟨st2.put d p,?_,Says.rfl' _⟩⟩
    unfold stepG
    simp only [hg2 _ hb st2 hr,Option.bind_some,if_true,zc4 hp,zi0 (hx st2 hr),h3];rfl
 ·have hp':zfj c=false:=by simpa using hp
  unfold preK at hk
  rw [hp'] at hk
  simp only [Bool.false_or,Bool.or_eq_true] at hk
  rcases hk with hm | hq
  ·cases c<;>try (cases hm;done)
   case load ag n x =>
    have hs:stepG cf st ⟨some d,g,.load ag n x⟩=some st':=h
    unfold stepG at hs
    obtain ⟨b,hb,h2⟩:=qb hs
    dsimp only at hb h2
    cases b with
    | false =>
      simp only [Bool.false_eq_true,if_false,Option.some.injEq] at h2
      subst h2
      exact ⟨.tup [],rfl,fun st2 hr _=>⟨_,by unfold stepG;simp only [hg2 _ hb st2 hr,Option.bind_some,Bool.false_eq_true,if_false];rfl,Says.rfl' _⟩⟩
    | true =>
      simp only [if_true,zaa,Option.bind_some] at h2
      obtain ⟨p,h3,rfl⟩:=qm h2
      refine ⟨p,rfl,fun st2 hr hz=>⟨st2.put d p,?_,Says.rfl' _⟩⟩
      obtain ⟨z,hz⟩:=hz.1 rfl
      unfold stepG
      simp only [hg2 _ hb st2 hr,Option.bind_some,if_true,zaa,hx st2 hr x (by simp [COp.xs]),hz,zsd z h3,Option.map_some]
  ·cases c<;>try (cases hq;done)
   case call f args =>
    unfold zdn at h
    dsimp only at h
    obtain ⟨s',hs,h⟩:=qb h
    split at h
    case isFalse=>cases h
    rename_i hqq
    cases h
    obtain ⟨hb1,hc1⟩:=hqq
    refine ⟨_,rfl,fun st2 hr hz=>?_⟩
    obtain ⟨z1,z2,z3⟩:=hz.2 rfl rfl
    unfold stepG at hs ⊢
    obtain ⟨b,hb,h2⟩:=qb hs
    dsimp only at hb h2 ⊢
    rw [hg2 _ hb st2 hr,Option.bind_some]
    cases b with
    | false =>
      simp only [Bool.false_eq_true,if_false,Option.some.injEq] at h2 ⊢
      subst h2
      refine ⟨_,rfl,⟨fun x=>by simp [St.putD,St.put,za2],fun L h=>h,fun q h=>h,rfl⟩⟩
    | true =>
      simp only [if_true,zaa] at h2 ⊢
      have:(args.map fun x=>(x.ev st2.sl).weak)=args.map fun x=>(x.ev st.sl).weak:=List.map_congr_left fun x h=>by rw [hx st2 hr x h]
      rw [this]
      exact zxm h2 hb1 hc1 z1 z2 z3
theorem zu5 {qs:List FuncId} {D:List Nat}:∀ (l:List COper) (st stk:St),evQ cf l st=some stk→l.Pairwise (fun o o'=>∀ d,o'.dst=some d→d ∉ o.reads∧o.dst≠some d)→(∀ o∈l,preK qs o.op=true∧o.dst.isSome=true∧∀ d,o.dst=some d→d ∉ o.reads)→(∀ d,d∈D ↔ ∃ o∈l,o.dst=some d)→st.al=[] →
 stk.bx=st.bx∧stk.al=[]∧(∀ L,L∈stk.ow ↔ L∈st.ow∧clr D L=true)∧stk.ow=st.ow.filter (clr D)∧(∀ x,x ∉ D→look stk.sl x=look st.sl x) ∧
 ∀ o∈l,∀ d,o.dst=some d→∀ st2:St,(∀ x∈o.reads,look st2.sl x=look stk.sl x)→z9e stk st2 o.op→∃ s',stepG cf st2 o=some s'∧Says (st2.put d (look stk.sl d)) s'
 | [],st,stk,h,_,_,hD,hal=>by
   simp only [evQ,Option.some.injEq] at h
   subst h
   have hD0:∀ d,d ∉ D:=fun d hd=>by obtain ⟨o,ho,_⟩:=(hD d).1 hd;cases ho
   have hcl:∀ L,clr D L=true:=fun L=>by
    cases L with
    | slot i=>exact zga.2 (hD0 i)
    | cell=>rfl
   exact ⟨rfl,hal,fun L=>by simp [hcl L],(List.filter_eq_self.2 fun L _=>hcl L).symm,fun x _=>rfl,fun o ho=>by cases ho⟩
 | o::l,st,stk,h,hp,hk,hD,hal=>by
   simp only [evQ] at h
   obtain ⟨s1,h1,h2⟩:=qb h
   obtain ⟨hk1,hk2,hself⟩:=hk o List.mem_cons_self
   obtain ⟨d,hd⟩:=Option.isSome_iff_exists.1 hk2
   obtain ⟨p,rfl,hloc⟩:=z3l hk1 hd h1
   rw [List.pairwise_cons] at hp
   obtain ⟨D',hD'⟩:∃ D':List Nat,D'=l.filterMap (·.dst):=⟨_,rfl⟩
   have hD2:∀ x,x∈D' ↔ ∃ o∈l,o.dst=some x:=fun x=>by rw [hD',List.mem_filterMap]
   have hal2:(st.put d p).al=[]:=by simp [St.put,hal,za8]
   obtain ⟨k1,k2,k3,k4,k5,k6⟩:=zu5 (D:=D') l _ stk h2 hp.2 (fun o ho=>hk o (List.mem_cons_of_mem _ ho)) hD2 hal2
   have hDd:∀ x,x∈D ↔ x=d∨x∈D':=fun x=>by
    rw [hD x,hD2 x]
    constructor
    ·rintro ⟨q,hq,e⟩
     rcases List.mem_cons.1 hq with rfl | hq
     ·rw [hd] at e;cases e;exact .inl rfl
     ·exact .inr ⟨q,hq,e⟩
    ·rintro (rfl | ⟨q,hq,e⟩)
     ·exact ⟨o,List.mem_cons_self,hd⟩
     ·exact ⟨q,List.mem_cons_of_mem _ hq,e⟩
   have hdn:d ∉ D':=fun hm=>by
    obtain ⟨q,hq,e⟩:=(hD2 d).1 hm
    exact (hp.1 q hq d e).2 hd
   have hclr:∀ L,clr D L=(clr D' L && !ment d L):=fun L=>by
    cases L with
    | cell=>rfl
    | slot i =>
      simp only [clr,ment]
      have:=hDd i
      by_cases h1:i=d<;>by_cases h2:i∈D'<;>simp [h1,h2,this]<;>simp_all
   have hlk:look stk.sl d=p:=by rw [k5 d hdn];simp [St.put,za2]
   refine ⟨k1,k2,fun L=>?_,?_,fun x hx=>?_,fun q hq=>?_⟩
   ·rw [k3,hclr]
    simp only [St.put,zag,List.mem_filter,Bool.and_eq_true]
    exact ⟨fun ⟨⟨a,b⟩,c⟩=>⟨a,c,b⟩,fun ⟨a,c,b⟩=>⟨⟨a,b⟩,c⟩⟩
   ·rw [k4]
    simp only [St.put,zag,List.filter_filter]
    apply List.filter_congr
    intro L _
    exact (hclr L).symm
   ·have h3:x≠d∧x ∉ D':=⟨fun e=>hx ((hDd x).2 (.inl e)),fun e=>hx ((hDd x).2 (.inr e))⟩
    rw [k5 x h3.2]
    simp only [St.put,za2]
    rw [if_neg (Ne.symm h3.1)]
   ·rcases List.mem_cons.1 hq with rfl | hq
    ·intro d' hd' st2 hr hz
     rw [hd] at hd';cases hd'
     rw [hlk]
     refine hloc st2 (fun x hx=>?_) ⟨fun hm=>?_,fun hm1 hm2=>?_⟩
     ·rw [hr x hx]
      have hxD:x ∉ D':=fun hm=>by
       obtain ⟨o',ho',e⟩:=(hD2 x).1 hm
       exact (hp.1 o' ho' x e).1 hx
      rw [k5 x hxD]
      simp only [St.put,za2]
      rw [if_neg (fun e:d=x=>hself d hd (by rw [e];exact hx))]
     ·rw [← show stk.bx=st.bx from k1];exact hz.1 hm
     ·obtain ⟨z1,z2,z3⟩:=hz.2 hm1 hm2
      refine ⟨by rw [z1];exact k1,?_,z3⟩
      rw [z2,k4,List.filter_filter]
      simp only [St.put,zag]
      rw [List.filter_filter]
      apply List.filter_congr
      intro L _
      cases L<;>simp [zah,clr,ment]
    ·exact k6 q hq
end
instance:Inhabited COper:=⟨⟨none,none,.alloc 0 []⟩⟩
def mkA (g:Nat→BT) (cs:List COper):List Nat→BT
 | []=>.done
 | [j]=>.one (cs.getD j default) (g j)
 | j::k::r=>.two (cs.getD j default) (g j) (mkA g cs (k::r))
def zu6 (n:Nat) (an:List (List Nat)) (ps dn:List Nat):List Nat:=(List.range n).filter fun j=>!ps.contains j && (!dn.contains j && (an.getD j []).all fun x=>ps.contains x || dn.contains x)
def mkT (n:Nat) (an:List (List Nat)) (ps:List Nat) (cs:List COper):Nat→List Nat→BT
 | 0,_=>.done
 | f+1,dn=>mkA (fun j=>mkT n an ps cs f (j::dn)) cs (zu6 n an ps dn)
def atD (cs:List COper) (i:Nat):COper:=cs.getD i default
def z9f (qs:List FuncId) (ops:Array Oper) (cs:List COper) (ps:List Nat):Bool :=
 let an:=ancs ops
 let n:=ops.size
 cs.length == n &&
 (List.range n).all (fun i=>(zc9 ops i).all (·<i)) &&
 ps.all (fun i=>decide (i<n) && (preK qs (atD cs i).op && (atD cs i).dst.isSome)) &&
 ps.all (fun i=>(List.range n).all fun j=>i == j || (atD cs j).dst != (atD cs i).dst) &&
 (List.range n).all (fun i=>(atD cs i).reads.all fun s=>ps.all fun j=>(atD cs j).dst != some s || (decide (j<i) && (an.getD i []).contains j)) &&
 ps.all (fun i=>(atD cs i).reads.all fun s=>(List.range n).all fun j=>(atD cs j).dst != some s || (ps.contains j || (an.getD j []).contains i)) &&
 ps.all (fun i=>!memK (atD cs i).op || (List.range n).all fun j=>!wrK (atD cs j).op || (ps.contains j || (an.getD j []).contains i)) &&
 ps.all (fun i=>!zu4 qs (atD cs i).op || (List.range n).all fun j=>!zy4 (atD cs j).op || (ps.contains j || (an.getD j []).contains i)) &&
 (List.range n).all (fun j=>ps.contains j || (match ye2 (atD cs j).op with | some s=>ps.all fun i=>(atD cs i).dst != some s | none=>true)) &&
 decide (ps.Pairwise (·<·))
section
variable {P:Program} {w w':World} {r:Option Nat} {a a':Act} {cf:Callee} {Γ:Glob} {S:S0}
theorem zmq {α:Type} {a b:Option α} {x:α} (h:same a b=some x):a=some x∧b=some x:=by
 unfold same at h
 split at h
 ·rename_i e;exact ⟨h,e ▸ h⟩
 ·cases h
theorem z3m {live:List Nat} {g:Nat→BT} {cs:List COper} {s F:St}:∀ (l:List Nat),evT cf live (mkA g cs l) s=some F→∀ j∈l,∃ s',stepG cf s (atD cs j)=some s'∧evT cf live (g j) s'=some F
 | [],_,j,hj=>by cases hj
 | [i],h,j,hj=>by
   simp only [mkA,evT] at h
   obtain rfl:j=i:=by simpa using hj
   exact qb h
 | i::k::l,h,j,hj=>by
   simp only [mkA,evT] at h
   obtain ⟨h1,h2⟩:=zmq h
   rcases List.mem_cons.1 hj with rfl | hj
   ·exact qb h1
   ·exact z3m (k::l) h2 j hj
theorem ykk {s s':St} {d:Option Nat} {c:COp} (hw:wrK c=false) (h:zaa cf s d c=some s'):∃ z,s'.bx=s.bx++z:=by
 have put:∀ (d:Option Nat) v,(s.putD d v).bx=s.bx++[]:=fun d v=>by cases d<;>simp [St.putD,St.put]
 by_cases hp:zfj c=true
 ·rw [zc4 hp] at h
  obtain ⟨p,_,rfl⟩:=qm h
  exact ⟨[],put d p⟩
 cases c<;>try (exact absurd rfl hp)
 case mvA x =>
  simp only [zaa] at h
  obtain ⟨d,rfl,h2⟩:=qb h
  split at h2
  ·cases h2
  ·cases h2;exact ⟨[],by simp [St.put]⟩
 case asg x =>
  cases x with
  | c v=>exact absurd rfl hp
  | t i =>
    simp only [zaa] at h
    cases d with
    | none=>cases h
    | some d =>
      dsimp only at h
      split at h
      ·cases h
      ·split at h<;>(cases h;exact ⟨[],by simp [St.put]⟩)
 case alloc e zs =>
  simp only [zaa] at h
  obtain ⟨d,rfl,rfl⟩:=qm h
  exact ⟨_,rfl⟩
 case box e n x =>
  simp only [zaa] at h
  obtain ⟨d,rfl,h2⟩:=qb h
  split at h2
  ·cases h2;exact ⟨_,rfl⟩
  ·cases h2
 case mksl by0 n size zs ps =>
  simp only [zaa] at h
  obtain ⟨d,rfl,h2⟩:=qb h
  obtain ⟨cs,h1,h3⟩:=qb h2
  split at h3
  ·cases h3;exact ⟨[],by simp [St.putOwn]⟩
  ·cases h3
 case b2s x =>
  simp only [zaa] at h
  obtain ⟨p,h1,rfl⟩:=qm h
  exact ⟨[],put d p⟩
 case load ag n x =>
  simp only [zaa] at h
  obtain ⟨d,rfl,h2⟩:=qb h
  obtain ⟨p,h1,rfl⟩:=qm h2
  exact ⟨[],by simp [St.put]⟩
 case loadA x =>
  simp only [zaa] at h
  obtain ⟨d,rfl,h2⟩:=qb h
  split at h2
  ·obtain ⟨p,h1,rfl⟩:=qm h2
   exact ⟨[],by simp [St.put]⟩
  ·cases h2
 case loadM x =>
  simp only [zaa] at h
  obtain ⟨d,rfl,h2⟩:=qb h
  split at h2
  ·obtain ⟨p,h1,h2⟩:=qb h2
   split at h2
   ·cases h2;exact ⟨[],by simp [St.put]⟩
   ·cases h2
  ·cases h2
 case store=>cases hw
 case append by0 size x y =>
  simp only [zaa] at h
  split at h
  ·split at h
   ·split at h
    ·obtain ⟨d,rfl,rfl⟩:=qm h
     refine ⟨[],?_⟩
     split<;>simp [St.put,St.putOwn]
    ·cases h
   ·cases h
  ·split at h
   ·obtain ⟨L,h1,h⟩:=qb h
    obtain ⟨d,rfl,h⟩:=qb h
    split at h
    ·split at h
     ·cases h;exact ⟨[],by simp⟩
     ·cases h
    ·cases h
   ·cases h
 case appendS x y =>
  simp only [zaa] at h
  split at h
  ·split at h
   ·split at h
    ·obtain ⟨d,rfl,rfl⟩:=qm h
     refine ⟨[],?_⟩
     split<;>simp [St.put,St.putOwn]
    ·cases h
   ·cases h
  ·split at h
   ·obtain ⟨L,h1,h⟩:=qb h
    obtain ⟨d,rfl,h⟩:=qb h
    split at h
    ·split at h
     ·cases h;exact ⟨[],by simp⟩
     ·cases h
    ·cases h
   ·cases h
 case call=>cases hw
 case callv=>cases hw
theorem z9g {s s':St} {o:COper} (hw:wrK o.op=false) (h:stepG cf s o=some s'):∃ z,s'.bx=s.bx++z:=by
 unfold stepG at h
 obtain ⟨b,h1,h2⟩:=qb h
 cases b with
 | false =>
   simp only [Bool.false_eq_true,if_false,Option.some.injEq] at h2
   subst h2
   exact ⟨[],by cases o.dst<;>simp [St.putD,St.put]⟩
 | true=>simp only [if_true] at h2;exact ykk hw h2
theorem zlz {s s':St} {d:Option Nat} {f:FuncId} {az:List PV} (h:callBx cf s d f az=some s') (x:Nat) (hx:d≠some x):look s'.sl x=look s.sl x:=by
 unfold callBx at h
 obtain ⟨⟨vs,os,bx,oc⟩,_,rfl⟩:=qm h
 cases d with
 | none=>rfl
 | some d =>
   have:d≠x:=fun e=>hx (by rw [e])
   cases os<;>simp [St.put,St.putOwn,za2,this]
theorem zp2 {s s':St} {d:Option Nat} {f:FuncId} {az:List PV} (h:callSt cf s d f az=some s') (x:Nat) (hx:d≠some x):look s'.sl x=look s.sl x:=by
 unfold callSt at h
 split at h
 ·obtain ⟨⟨vs,os,bx,oc⟩,h1,h2⟩:=qb h
  dsimp only at h2
  split at h2
  ·cases d with
   | none=>cases h2;rfl
   | some d =>
     have:d≠x:=fun e=>hx (by rw [e])
     cases os<;>(cases h2;simp [St.put,St.putOwn,za2,this])
  ·exact zlz h2 x hx
 ·exact zlz h x hx
theorem ye3 {s s':St} {d:Option Nat} {c:COp} (h:zaa cf s d c=some s') (x:Nat) (hx:d≠some x):look s'.sl x=look s.sl x:=by
 have put:∀ (d:Option Nat) v,d≠some x→look (s.putD d v).sl x=look s.sl x:=fun d v hd=>by
  cases d with
  | none=>rfl
  | some d =>
    have:d≠x:=fun e=>hd (by rw [e])
    simp [St.putD,St.put,za2,this]
 by_cases hp:zfj c=true
 ·rw [zc4 hp] at h
  obtain ⟨p,_,rfl⟩:=qm h
  exact put d p hx
 have put':∀ (d:Nat) v,some d≠some x→look ((d,v)::s.sl) x=look s.sl x:=fun d v hd=>by
  have:d≠x:=fun e=>hd (by rw [e])
  simp [za2,this]
 cases c<;>try (exact absurd rfl hp)
 case mvA x =>
  simp only [zaa] at h
  obtain ⟨d,rfl,h2⟩:=qb h
  split at h2
  ·cases h2
  ·cases h2;exact put' _ _ hx
 case asg y =>
  cases y with
  | c v=>exact absurd rfl hp
  | t i =>
    simp only [zaa] at h
    cases d with
    | none=>cases h
    | some d =>
      dsimp only at h
      split at h
      ·cases h
      ·split at h<;>(cases h;exact put' _ _ hx)
 case alloc e zs =>
  simp only [zaa] at h
  obtain ⟨d,rfl,rfl⟩:=qm h
  exact put' _ _ hx
 case box e n x =>
  simp only [zaa] at h
  obtain ⟨d,rfl,h2⟩:=qb h
  split at h2
  ·cases h2;exact put' _ _ hx
  ·cases h2
 case mksl by0 n size zs ps =>
  simp only [zaa] at h
  obtain ⟨d,rfl,h2⟩:=qb h
  obtain ⟨cs,h1,h3⟩:=qb h2
  split at h3
  ·cases h3;exact put' _ _ hx
  ·cases h3
 case b2s y =>
  simp only [zaa] at h
  obtain ⟨p,h1,rfl⟩:=qm h
  exact put d p hx
 case load ag n y =>
  simp only [zaa] at h
  obtain ⟨d,rfl,h2⟩:=qb h
  obtain ⟨p,h1,rfl⟩:=qm h2
  exact put' _ _ hx
 case loadA y =>
  simp only [zaa] at h
  obtain ⟨d,rfl,h2⟩:=qb h
  split at h2
  ·obtain ⟨p,h1,rfl⟩:=qm h2
   exact put' _ _ hx
  ·cases h2
 case loadM y =>
  simp only [zaa] at h
  obtain ⟨d,rfl,h2⟩:=qb h
  split at h2
  ·obtain ⟨p,h1,h2⟩:=qb h2
   split at h2
   ·cases h2;exact put' _ _ hx
   ·cases h2
  ·cases h2
 case store n a y =>
  simp only [zaa] at h
  split at h
  ·obtain ⟨q,h1,h2⟩:=qb h
   split at h2
   ·split at h2
    ·split at h2<;>(cases h2;rfl)
    ·cases h2;rfl
   ·cases h2
  ·cases h
 case append by0 size y z =>
  simp only [zaa] at h
  split at h
  ·split at h
   ·split at h
    ·obtain ⟨d,rfl,rfl⟩:=qm h
     split<;>exact put' _ _ hx
    ·cases h
   ·cases h
  ·split at h
   ·obtain ⟨L,h1,h⟩:=qb h
    obtain ⟨d,rfl,h⟩:=qb h
    split at h
    ·split at h
     ·cases h;exact put' _ _ hx
     ·cases h
    ·cases h
   ·cases h
 case appendS y z =>
  simp only [zaa] at h
  split at h
  ·split at h
   ·split at h
    ·obtain ⟨d,rfl,rfl⟩:=qm h
     split<;>exact put' _ _ hx
    ·cases h
   ·cases h
  ·split at h
   ·obtain ⟨L,h1,h⟩:=qb h
    obtain ⟨d,rfl,h⟩:=qb h
    split at h
    ·split at h
     ·cases h;exact put' _ _ hx
     ·cases h
    ·cases h
   ·cases h
 case call f args =>
  simp only [zaa] at h
  exact zp2 h x hx
 case callv g args =>
  simp only [zaa] at h
  split at h
  ·split at h
   ·cases h
   ·exact zp2 h x hx
  ·exact zlz h x hx
  ·cases h
theorem zu7 {s s':St} {o:COper} (h:stepG cf s o=some s') (x:Nat) (hx:o.dst≠some x):look s'.sl x=look s.sl x:=by
 unfold stepG at h
 obtain ⟨b,h1,h2⟩:=qb h
 cases b with
 | false =>
   simp only [Bool.false_eq_true,if_false,Option.some.injEq] at h2
   subst h2
   cases hd:o.dst with
   | none=>rfl
   | some d =>
     have:d≠x:=fun e=>hx (by rw [hd,e])
     simp [St.putD,St.put,za2,this]
 | true=>simp only [if_true] at h2;exact ye3 h2 x hx
theorem zy5 {s s':St} {d:Option Nat} {c:COp} (hw:zy4 c=false) (h:zaa cf s d c=some s'):s'.bx=s.bx∧s'.ow.filter zah=s.ow.filter zah∧((∀ q∈s.al,zah q.2=false)→∀ q∈s'.al,zah q.2=false):=by
 have e1:∀ (d:Nat) (l:List Loc),(zag d l).filter zah=l.filter zah:=fun d l=>by
  unfold zag
  rw [List.filter_filter]
  apply List.filter_congr
  intro L _
  cases L<;>simp [zah,ment]
 have e2:∀ (i:Nat) (l:List Loc),(.slot i::l:List Loc).filter zah=l.filter zah:=fun i l=>by rw [List.filter_cons,if_neg (by simp [zah])]
 have e3:∀ (d:Nat) (l:List (Nat × Loc)),(∀ q∈l,zah q.2=false)→∀ q∈za8 d l,zah q.2=false:=fun d l hl q hq=>hl q (List.mem_filter.1 hq).1
 have put:∀ (d:Option Nat) v,(s.putD d v).bx=s.bx∧(s.putD d v).ow.filter zah=s.ow.filter zah∧((∀ q∈s.al,zah q.2=false)→∀ q∈(s.putD d v).al,zah q.2=false):=fun d v=>by
  cases d with
  | none=>exact ⟨rfl,rfl,id⟩
  | some d=>exact ⟨rfl,e1 d _,e3 d _⟩
 by_cases hp:zfj c=true
 ·rw [zc4 hp] at h
  obtain ⟨p,_,rfl⟩:=qm h
  exact put d p
 cases c<;>first | exact absurd rfl hp | (cases hw;done) | skip
 case mvA x =>
  simp only [zaa] at h
  obtain ⟨d,rfl,h2⟩:=qb h
  split at h2
  ·cases h2
  ·cases h2
   refine ⟨rfl,e1 d _,fun hl q hq=>?_⟩
   rcases List.mem_cons.1 hq with rfl | hq
   ·rfl
   ·exact e3 d _ hl q hq
 case asg x =>
  cases x with
  | c v=>exact absurd rfl hp
  | t i =>
    simp only [zaa] at h
    cases d with
    | none=>cases h
    | some d =>
      dsimp only at h
      split at h
      ·cases h
      ·split at h
       ·cases h
        exact ⟨rfl,by simp only [e2,e1],fun hl=>e3 _ _ (e3 d _ hl)⟩
       ·cases h
        exact put (some d) _
 case mksl by0 n size zs ps =>
  simp only [zaa] at h
  obtain ⟨d,rfl,h2⟩:=qb h
  obtain ⟨cs,h1,h3⟩:=qb h2
  split at h3
  ·cases h3
   exact ⟨rfl,by simp only [St.putOwn,e2,e1],e3 d _⟩
  ·cases h3
 case b2s x =>
  simp only [zaa] at h
  obtain ⟨p,h1,rfl⟩:=qm h
  exact put d p
 case load ag n x =>
  simp only [zaa] at h
  obtain ⟨d,rfl,h2⟩:=qb h
  obtain ⟨p,h1,rfl⟩:=qm h2
  exact put (some d) p
theorem z04 {s s':St} {o:COper} (hw:zy4 o.op=false) (h:stepG cf s o=some s'):s'.bx=s.bx∧s'.ow.filter zah=s.ow.filter zah∧((∀ q∈s.al,zah q.2=false)→∀ q∈s'.al,zah q.2=false):=by
 unfold stepG at h
 obtain ⟨b,h1,h2⟩:=qb h
 cases b with
 | false =>
   simp only [Bool.false_eq_true,if_false,Option.some.injEq] at h2
   subst h2
   exact zy5 (cf:=cf) (s:=s) (d:=o.dst) (c:=.mv (.c (.tup []))) rfl (by simp [zaa,zar,X.ev])
 | true=>simp only [if_true] at h2;exact zy5 hw h2
theorem z9h {cs:List COper} {j:Nat} (h:j<cs.length):cs[j]? =some (atD cs j):=by simp [atD,h]
theorem zu8 {qs:List FuncId} (hcf:zbv P Γ cf) (hS:Good Γ S) {ops:Array Oper} {ali:List Nat} {cs:List COper} {ps:List Nat} {Q:Exit→Act→World→Prop} {st0 stk:St} (hok:z9f qs ops cs ps=true)
 (hco:∀ (j:Nat) (c:COper),cs[j]? =some c→∃ o,ops[j]? =some o∧CoR P S.nt ops ali o c) (hal:st0.al=[]) (hpre:evQ cf (ps.map (atD cs)) st0=some stk)
 {TP:BT→St→Prop} {Dies:Nat→St→Prop} (hmemT:∀ (g:Nat→BT) (s:St) (l:List Nat),TP (mkA g cs l) s→∀ j∈l,(∃ s',stepG cf s (atD cs j)=some s'∧TP (g j) s')∨Dies j s) (hfin:∀ s a w,TP .done s→Rl P S s a w→Q .normal a w)
 (hdies:∀ j s,Dies j s→∀ s1 o a w K,(∀ x∈(atD cs j).reads,look s1.sl x=look s.sl x)→(∀ x,(∀ i∈ps,(atD cs i).dst≠some x)→look s1.sl x=look s.sl x)→s1.bx=s.bx→s1.ow.filter zah=s.ow.filter zah→CoR P S.nt ops ali o (atD cs j)→Rl P S s1 a w→if Region.wanted o (yielded ops a.tmps) then o.wpIn (fw r) 0 P a w K Q else (∀ f,o.about P w a.eval=some f→(fw r).fn f)∧K (a.put o.dst undef) w)
 (htree:TP (mkT ops.size (ancs ops) ps cs ops.size []) stk) (hr:Rl P S st0 a w):wpAnyIn (fw r) 0 P .any ops Q ops.size (Array.replicate ops.size false) a w:=by
 unfold z9f at hok
 simp only [Bool.and_eq_true,decide_eq_true_eq,List.all_eq_true,List.mem_range,Bool.or_eq_true,bne_iff_ne,ne_eq,beq_iff_eq,List.contains_iff_mem,Bool.not_eq_true'] at hok
 obtain ⟨⟨⟨⟨⟨⟨⟨⟨⟨hlen,hback⟩,hkind⟩,hdist⟩,hreads⟩,hwar⟩,hmem⟩,hquiet⟩,hali⟩,hsort⟩:=hok
 obtain ⟨n,hn⟩:∃ n,ops.size=n:=⟨_,rfl⟩
 obtain ⟨an,han⟩:∃ an,ancs ops=an:=⟨_,rfl⟩
 rw [hn] at hlen hback hkind hdist hreads hwar hmem hquiet hali htree
 rw [han] at hreads hwar hmem hquiet htree
 have hdst:∀ i∈ps,∃ d,(atD cs i).dst=some d:=fun i hi=>Option.isSome_iff_exists.1 (hkind i hi).2.2
 obtain ⟨D,hDe⟩:∃ D:List Nat,D=ps.filterMap fun i=>(atD cs i).dst:=⟨_,rfl⟩
 have hD:∀ d,d∈D ↔ ∃ i∈ps,(atD cs i).dst=some d:=fun d=>by rw [hDe,List.mem_filterMap]
 have hself:∀ i∈ps,∀ d,(atD cs i).dst=some d→d ∉ (atD cs i).reads:=fun i hi d hd hm=>by
  rcases hreads i (hkind i hi).1 d hm i hi with h | ⟨h,_⟩
  ·exact h hd
  ·omega
 obtain ⟨f1,f2,f3,f4,f5,f6⟩:=zu5 (qs:=qs) (D:=D) (ps.map (atD cs)) st0 stk hpre (by
  rw [List.pairwise_map]
  refine (List.Pairwise.and_mem.1 hsort).imp ?_
  rintro i j ⟨hi,hj,hij⟩ d hd
  refine ⟨fun hm=>?_,fun e=>?_⟩
  ·rcases hreads i (hkind i hi).1 d hm j hj with h | ⟨h,_⟩
   ·exact h hd
   ·omega
  ·rcases hdist i hi j (hkind j hj).1 with h | h
   ·omega
   ·exact h (by rw [hd,e])) (fun o ho=>by
  obtain ⟨i,hi,rfl⟩:=List.mem_map.1 ho
  exact ⟨(hkind i hi).2.1,(hkind i hi).2.2,hself i hi⟩) (fun d=>by
  rw [hD]
  constructor
  ·rintro ⟨i,hi,e⟩;exact ⟨_,List.mem_map.2 ⟨i,hi,rfl⟩,e⟩
  ·rintro ⟨o,ho,e⟩;obtain ⟨i,hi,rfl⟩:=List.mem_map.1 ho;exact ⟨i,hi,e⟩) hal
 have f7:∀ i∈ps,∀ d,(atD cs i).dst=some d→∀ st2:St,(∀ x∈(atD cs i).reads,look st2.sl x=look stk.sl x)→z9e stk st2 (atD cs i).op→∃ s',stepG cf st2 (atD cs i)=some s'∧Says (st2.put d (look stk.sl d)) s' :=
  fun i hi=>f6 _ (List.mem_map.2 ⟨i,hi,rfl⟩)
 have hdn:∀ j,j<n→j ∉ ps→∀ d,(atD cs j).dst=some d→d ∉ D:=fun j hj hp d hd hm=>by
  obtain ⟨i,hi,e⟩:=(hD d).1 hm
  rcases hdist i hi j hj with h | h
  ·exact hp (h ▸ hi)
  ·exact h (by rw [hd,e])
 obtain ⟨Inv,hInv⟩:∃ Inv:Array Bool→Act→World→Prop,Inv=fun listed a w=>∃ (f:Nat) (dn:List Nat) (s s1:St),Rl P S s1 a w∧Part (fun x=>∃ i∈ps,¬ listed.getD i false=true∧(atD cs i).dst=some x) D s1 s∧TP (mkT n an ps cs f dn) s ∧
  (∀ j,j<n→j ∉ ps→(listed.getD j false=true ↔ j∈dn))∧((List.range n).filter fun j=>!ps.contains j && !dn.contains j).length≤f ∧
  (∀ i∈ps,¬ listed.getD i false=true→(∀ x∈(atD cs i).reads,look s.sl x=look stk.sl x)∧z9e stk s (atD cs i).op)∧(∀ i∈ps,∀ d,(atD cs i).dst=some d→look s.sl d=look stk.sl d):=⟨_,rfl⟩
 have fin:∀ (listed:Array Bool) (a:Act) (w:World),(∀ i,i<n→listed.getD i false=true)→Inv listed a w→Q .normal a w:=fun listed a w hall h=>by
  rw [hInv] at h
  obtain ⟨f,dn,s,s1,h1,h2,h3,h4,h5,h6,h7⟩:=h
  have hrb:zu6 n an ps dn=[]:=by
   unfold zu6
   refine List.filter_eq_nil_iff.2 fun j hj hc=>?_
   simp only [Bool.and_eq_true,Bool.not_eq_true',List.contains_eq_mem,decide_eq_false_iff_not] at hc
   have hjn:=List.mem_range.1 hj
   exact hc.2.1 ((h4 j hjn hc.1).1 (hall j hjn))
  have hdone:mkT n an ps cs f dn=.done:=by
   cases f with
   | zero=>rfl
   | succ f=>simp only [mkT,hrb,mkA]
  rw [hdone] at h3
  have hNo:∀ x,¬ ∃ i∈ps,¬ listed.getD i false=true∧(atD cs i).dst=some x:=fun x ⟨i,hi,hl,_⟩=>hl (hall i (hkind i hi).1)
  refine hfin s a w h3 (h1.congr (fun x=>(h2.sl x (hNo x)).symm) (fun L hL=>(h2.own fun i _=>hNo i).2 hL) (fun q hq=>by rw [h2.al];exact hq) h2.bx.symm)
 have main:∀ (fuel:Nat) (listed:Array Bool) (a:Act) (w:World),listed.size=n→((List.range n).filter fun i=>!listed.getD i false).length≤fuel →
  (∀ i,i<n→listed.getD i false=true→∀ j∈zc9 ops i,listed.getD j false=true)→Inv listed a w→wpAnyIn (fw r) 0 P .any ops Q fuel listed a w:=by
  intro fuel
  have setd:∀ (listed:Array Bool) (i j:Nat),i<listed.size→((listed.setIfInBounds i true).getD j false=true ↔ (listed.getD j false=true∨j=i)):=fun listed i j hi=>by
   by_cases h:i=j
   ·subst h;simp [hi]
   ·rw [getD_set_ne false h]
    exact ⟨.inl,fun h'=>h'.resolve_right (Ne.symm h)⟩
  have rdy:∀ (listed:Array Bool) (i:Nat),listed.size=n→(i∈Region.ready .any ops listed ↔ i<n∧¬ listed.getD i false=true∧∀ j∈zc9 ops i,listed.getD j false=true):=fun listed i hz=>by
   rw [mem_ready]
   constructor
   ·rintro ⟨h1,o,ho,h2⟩
    have hi:=(Array.getElem?_eq_some_iff.1 ho).1
    refine ⟨by omega,?_,fun j hj=>?_⟩
    ·rw [Array.getD_eq_getD_getElem?,Array.getElem?_eq_getElem (by omega)] at h1 ⊢
     simp at h1 ⊢;exact h1
    ·unfold zc9 at hj
     rw [ho] at hj
     obtain ⟨e,he,hj2⟩:=List.mem_filterMap.1 hj
     split at hj2
     ·rename_i hb;cases hj2;exact h2 e (by simpa using he) hb
     ·cases hj2
   ·rintro ⟨hi,h1,h2⟩
    refine ⟨?_,ops[i],Array.getElem?_eq_getElem (by omega),fun e he hb=>h2 _ ?_⟩
    ·rw [Array.getD_eq_getD_getElem?,Array.getElem?_eq_getElem (by omega)] at h1 ⊢
     simp at h1 ⊢;exact h1
    ·unfold zc9
     rw [Array.getElem?_eq_getElem (by omega)]
     exact List.mem_filterMap.2 ⟨e,by simpa using he,by rw [if_pos hb]⟩
  have stuck:∀ listed:Array Bool,listed.size=n→Region.ready .any ops listed=[]→∀ i,i<n→listed.getD i false=true:=fun listed hz hrd i=>by
   induction i using Nat.strongRecOn with
   | _ i ih =>
     intro hi
     by_cases h:listed.getD i false=true
     ·exact h
     ·have:i∈Region.ready .any ops listed:=(rdy listed i hz).2 ⟨hi,h,fun j hj=>by
       have hlt:=hback i hi j hj
       exact ih j hlt (by omega)⟩
      rw [hrd] at this;cases this
  induction fuel with
  | zero =>
    intro listed a w hz hc _ hph
    have hall:∀ i,i<n→listed.getD i false=true:=fun i hi=>by
     cases hb:listed.getD i false with
     | true=>rfl
     | false =>
       have hmem:i∈(List.range n).filter fun i=>!listed.getD i false:=List.mem_filter.2 ⟨List.mem_range.2 hi,by rw [hb];rfl⟩
       have h0:(List.range n).filter (fun i=>!listed.getD i false)=[]:=qz (by omega)
       rw [h0] at hmem;cases hmem
    refine ⟨?_,fin listed a w hall hph⟩
    cases hrl:Region.ready .any ops listed with
    | nil=>rfl
    | cons i r =>
      have:=(rdy listed i hz).1 (by rw [hrl];simp)
      exact absurd (hall i this.1) this.2.1
  | succ fuel ih =>
    intro listed a w hz hc hcl hph
    refine ⟨fun h=>fin listed a w (stuck listed hz h) hph,fun i hi=>?_⟩
    obtain ⟨hin,hnl,hdir⟩:=(rdy listed i hz).1 hi
    have hcl':∀ i,listed.getD i false=true→∀ j∈zc9 ops i,listed.getD j false=true:=fun i' h=>by
     by_cases hlt:i'<n
     ·exact hcl i' hlt h
     ·rw [Array.getD_eq_getD_getElem?,Array.getElem?_eq_none (by omega)] at h;cases h
    have hanc:∀ x∈an.getD i [],listed.getD x false=true:=by rw [← han];exact ztr hcl' (by omega) hdir
    have hz2:(listed.setIfInBounds i true).size=n:=by simp [hz]
    have hcnt:((List.range n).filter fun j=>!(listed.setIfInBounds i true).getD j false).length≤fuel:=by
     have e1:((List.range n).filter fun j=>!(listed.setIfInBounds i true).getD j false)=((List.range n).filter fun j=>!listed.getD j false).filter (· != i):=by
      rw [List.filter_filter]
      apply List.filter_congr
      intro j _
      have:=setd listed i j (by omega)
      by_cases hji:j=i
      ·subst hji
       have h1:(listed.setIfInBounds j true).getD j false=true:=this.2 (.inr rfl)
       rw [h1];simp
      ·rw [getD_set_ne false (Ne.symm hji)];simp [hji]
     have hmem:i∈(List.range n).filter fun i=>!listed.getD i false:=List.mem_filter.2 ⟨List.mem_range.2 hin,by simpa using hnl⟩
     rw [e1]
     have:=List.length_filter_lt_length_iff_exists.2 (show ∃ x∈(List.range n).filter (fun j=>!listed.getD j false),¬ ((x != i)=true) from ⟨i,hmem,by simp⟩)
     omega
    have hcl2:∀ i',i'<n→(listed.setIfInBounds i true).getD i' false=true→∀ j∈zc9 ops i',(listed.setIfInBounds i true).getD j false=true:=fun i' hi' h j hj=>by
     rw [setd listed i _ (by omega)] at h ⊢
     rcases h with h | rfl
     ·exact .inl (hcl i' hi' h j hj)
     ·exact .inl (hdir j hj)
    rw [hInv] at hph
    obtain ⟨f,dn,s,s1,h1,h2,h3,h4,h5,h6,h7⟩:=hph
    obtain ⟨o,ho,hcoo⟩:=hco i (atD cs i) (z9h (by omega))
    have hND:∀ x,(∃ i∈ps,¬ listed.getD i false=true∧(atD cs i).dst=some x)→x∈D:=fun x ⟨j,hj,_,e⟩=>(hD x).2 ⟨j,hj,e⟩
    have hrN:∀ x∈(atD cs i).reads,¬ ∃ j∈ps,¬ listed.getD j false=true∧(atD cs j).dst=some x:=fun x hx ⟨j,hj,hl,e⟩=>by
     rcases hreads i hin x hx j hj with h | ⟨_,h⟩
     ·exact h e
     ·exact hl (hanc j h)
    by_cases hip:i∈ps
    ·
     obtain ⟨d,hd⟩:=hdst i hip
     obtain ⟨g1,g2⟩:=h6 i hip hnl
     obtain ⟨sx,hst,hsay⟩:=f7 i hip d hd s1 (fun x hx=>by rw [h2.sl x (hrN x hx)];exact g1 x hx) ⟨fun hm=>by rw [h2.bx];exact g2.1 hm,fun hm1 hm2=>by rw [h2.bx,h2.cells,h2.al];exact g2.2 hm1 hm2⟩
     refine zp0 ho (zkv hcf hS hcoo hst h1 fun a' w' hr''=>ih _ a' w' hz2 hcnt hcl2 ?_)
     have hr':Rl P S (s1.put d (look stk.sl d)) a' w':=hr''.congr (fun x=>(hsay.sl x).symm) hsay.ow hsay.al hsay.bx.symm
     rw [hInv]
     have hdD:d∈D:=(hD d).2 ⟨i,hip,hd⟩
     refine ⟨f,dn,s,_,hr',⟨fun x hx=>?_,?_,?_,h2.bx,h2.no,fun x hxD hx hm=>?_⟩,h3,fun j hj hjp=>?_,h5,fun j hj hl=>?_,h7⟩
     ·by_cases e:d=x
      ·subst e
       simp only [St.put,za2,if_true]
       exact (h7 i hip d hd).symm
      ·simp only [St.put,za2]
       rw [if_neg e]
       refine h2.sl x fun ⟨j,hj,hl,e2⟩=>hx ⟨j,hj,?_,e2⟩
       rw [setd listed i j (by omega)]
       rintro (h | rfl)
       ·exact hl h
       ·rw [hd] at e2;cases e2;exact e rfl
     ·have:((s1.put d (look stk.sl d)).ow).filter (clr D)=s1.ow.filter (clr D):=by
       show (zag d s1.ow).filter (clr D)=_
       unfold zag
       rw [List.filter_filter]
       apply List.filter_congr
       intro L _
       cases L with
       | cell=>rfl
       | slot k =>
         simp only [clr,ment]
         by_cases e:k=d
         ·subst e;simp [hdD]
         ·simp [e]
      rw [this,h2.ow]
     ·show za8 d s1.al=s.al
      rw [h2.al]
      refine List.filter_eq_self.2 fun q hq=>?_
      obtain ⟨k1,k2⟩:=h2.no q hq
      have e1:q.1≠d:=fun e=>k1 (e ▸ hdD)
      have e2:ment d q.2=false:=by
       cases hq2:q.2 with
       | cell=>rfl
       | slot k =>
         rw [hq2,zga] at k2
         simp only [ment,beq_eq_false_iff_ne,ne_eq]
         exact fun e=>k2 (e ▸ hdD)
      simp [e1,e2]
     ·have hm2:.slot x∈zag d s1.ow:=hm
      unfold zag at hm2
      obtain ⟨m1,m2⟩:=List.mem_filter.1 hm2
      by_cases e:x=d
      ·subst e;simp [ment] at m2
      ·refine h2.un x hxD (fun ⟨j,hj,hl,e2⟩=>hx ⟨j,hj,?_,e2⟩) m1
       rw [setd listed i j (by omega)]
       rintro (h | rfl)
       ·exact hl h
       ·rw [hd] at e2;cases e2;exact e rfl
     ·rw [setd listed i j (by omega),h4 j hj hjp]
      exact ⟨fun h=>h.resolve_right fun e=>hjp (e ▸ hip),.inl⟩
     ·exact h6 j hj fun h=>hl ((setd listed i j (by omega)).2 (.inl h))
    ·
     have hind:i ∉ dn:=fun h=>hnl ((h4 i hin hip).2 h)
     have hrdy:i∈zu6 n an ps dn:=by
      unfold zu6
      refine List.mem_filter.2 ⟨List.mem_range.2 hin,?_⟩
      simp only [Bool.and_eq_true,Bool.not_eq_true',List.contains_eq_mem,decide_eq_false_iff_not,List.all_eq_true,Bool.or_eq_true,decide_eq_true_eq]
      refine ⟨hip,hind,fun x hx=>?_⟩
      by_cases hxp:x∈ps
      ·exact .inl hxp
      ·right
       have hxl:=hanc x hx
       by_cases hxn:x<n
       ·exact (h4 x hxn hxp).1 hxl
       ·rw [Array.getD_eq_getD_getElem?,Array.getElem?_eq_none (by omega)] at hxl;cases hxl
     have hfp:0<f:=by
      have:i∈(List.range n).filter fun j=>!ps.contains j && !dn.contains j:=List.mem_filter.2 ⟨List.mem_range.2 hin,by simp [hip,hind]⟩
      have:=List.length_pos_of_mem this
      omega
     obtain ⟨f,rfl⟩:∃ f',f=f'+1:=⟨f - 1,by omega⟩
     simp only [mkT] at h3
     rcases hmemT _ s _ h3 i hrdy with ⟨s',k1,k2⟩ | hdie
     case inr=>exact zp0 ho (hdies i s hdie s1 o a w _ (fun x hx=>h2.sl x (hrN x hx)) (fun x hx=>h2.sl x fun ⟨i',hi',_,e⟩=>hx i' hi' e) h2.bx h2.cells hcoo h1)
     have hdD:∀ x,(atD cs i).dst=some x→x ∉ D:=fun x hx=>hdn i hin hip x hx
     obtain ⟨s1',k3,k4⟩:=frame h2 hND hdD hrN (fun x hx hxD=>by
      obtain ⟨j,hj,e⟩:=(hD x).1 hxD
      rcases hali i hin with h | h
      ·exact hip h
      ·rw [hx] at h;simp only [List.all_eq_true,bne_iff_ne,ne_eq] at h;exact h j hj e) k1
     refine zp0 ho (zkv hcf hS hcoo k3 h1 fun a' w' hr'=>ih _ a' w' hz2 hcnt hcl2 ?_)
     rw [hInv]
     have hNe:(fun x=>∃ j∈ps,¬ (listed.setIfInBounds i true).getD j false=true∧(atD cs j).dst=some x)=fun x=>∃ j∈ps,¬ listed.getD j false=true∧(atD cs j).dst=some x:=by
      funext x
      apply propext
      constructor
      ·rintro ⟨j,hj,hl,e⟩
       exact ⟨j,hj,fun h=>hl ((setd listed i j (by omega)).2 (.inl h)),e⟩
      ·rintro ⟨j,hj,hl,e⟩
       refine ⟨j,hj,fun h=>?_,e⟩
       rcases (setd listed i j (by omega)).1 h with h | rfl
       ·exact hl h
       ·exact hip hj
     refine ⟨f,i::dn,s',s1',hr',by rw [hNe];exact k4,k2,fun j hj hjp=>?_,?_,fun j hj hl=>?_,fun j hj d hd=>?_⟩
     ·rw [setd listed i j (by omega),h4 j hj hjp,List.mem_cons]
      exact Or.comm
     ·have e1:((List.range n).filter fun j=>!ps.contains j && !(i::dn).contains j)=((List.range n).filter fun j=>!ps.contains j && !dn.contains j).filter (· != i):=by
       rw [List.filter_filter]
       apply List.filter_congr
       intro j _
       by_cases hji:j=i
       ·subst hji;simp
       ·simp [hji]
      have hmem2:i∈(List.range n).filter fun j=>!ps.contains j && !dn.contains j:=List.mem_filter.2 ⟨List.mem_range.2 hin,by simp [hip,hind]⟩
      rw [e1]
      have:=List.length_filter_lt_length_iff_exists.2 (show ∃ x∈(List.range n).filter (fun j=>!ps.contains j && !dn.contains j),¬ ((x != i)=true) from ⟨i,hmem2,by simp⟩)
      omega
     ·have hl0:¬ listed.getD j false=true:=fun h=>hl ((setd listed i j (by omega)).2 (.inl h))
      obtain ⟨g1,g2⟩:=h6 j hj hl0
      refine ⟨fun x hx=>?_,fun hm=>?_,fun hm1 hm2=>?_⟩
      ·rw [zu7 k1 x fun e=>?_]
       ·exact g1 x hx
       ·rcases hwar j hj x hx i hin with h | h | h
        ·exact h e
        ·exact hip h
        ·exact hl0 (hanc j h)
      ·obtain ⟨z,hz⟩:=g2.1 hm
       obtain ⟨z2,hz2⟩:=z9g (o:=atD cs i) (by
        rcases hmem j hj with h | h
        ·rw [hm] at h;cases h
        ·rcases h i hin with h | h | h
         ·exact h
         ·exact absurd h hip
         ·exact absurd (hanc j h) hl0) k1
       exact ⟨z++z2,by rw [hz2,hz,List.append_assoc]⟩
      ·obtain ⟨z1,z2,z3⟩:=g2.2 hm1 hm2
       have hqk:zu4 qs (atD cs j).op=true:=by
        have:=(hkind j hj).2.1
        unfold preK at this
        rw [hm1,hm2] at this
        simpa using this
       obtain ⟨y1,y2,y3⟩:=z04 (o:=atD cs i) (by
        rcases hquiet j hj with h | h
        ·rw [hqk] at h;cases h
        ·rcases h i hin with h | h | h
         ·exact h
         ·exact absurd h hip
         ·exact absurd (hanc j h) hl0) k1
       exact ⟨by rw [y1,z1],by rw [y2,z2],y3 z3⟩
     ·rw [zu7 k1 d fun e=>hdD d e ((hD d).2 ⟨j,hj,hd⟩)]
      exact h7 j hj d hd
 rw [hn]
 refine main n _ a w (by simp) (Nat.le_trans (List.length_filter_le _ _) (by simp)) (fun i hi h=>by simp [hi] at h) ?_
 have hnot:∀ i,¬ (Array.replicate n false).getD i false=true:=fun i h=>by
  by_cases hj:i<n<;>simp [hj] at h
 rw [hInv]
 refine ⟨n,[],stk,st0,hr,⟨fun x hx=>?_,f4.symm,by rw [f2,hal],f1.symm,(fun q hq=>by rw [f2] at hq;cases hq),fun x hxD hx=>?_⟩,htree,fun j _ _=>⟨fun h=>absurd h (hnot j),fun h=>by cases h⟩,Nat.le_trans (List.length_filter_le _ _) (by simp),fun i hi _=>⟨fun x hx=>rfl,fun _=>⟨[],by simp⟩,fun _ _=>⟨rfl,rfl,fun q hq=>by rw [f2] at hq;cases hq⟩⟩,fun i hi d hd=>rfl⟩
 ·refine (f5 x fun hm=>hx ?_).symm
  obtain ⟨i,hi,e⟩:=(hD x).1 hm
  exact ⟨i,hi,hnot i,e⟩
 ·obtain ⟨i,hi,e⟩:=(hD x).1 hxD
  exact absurd ⟨i,hi,hnot i,e⟩ hx
theorem zu9 {qs:List FuncId} (hcf:zbv P Γ cf) (hS:Good Γ S) {ops:Array Oper} {ali:List Nat} {cs:List COper} {ps live:List Nat} {Q:Exit→Act→World→Prop} {st0 stk F:St} (hok:z9f qs ops cs ps=true)
 (hco:∀ (j:Nat) (c:COper),cs[j]? =some c→∃ o,ops[j]? =some o∧CoR P S.nt ops ali o c) (hal:st0.al=[]) (hpre:evQ cf (ps.map (atD cs)) st0=some stk) (htree:evT cf live (mkT ops.size (ancs ops) ps cs ops.size []) stk=some F) (hr:Rl P S st0 a w)
 (hK:∀ s a' w',s.keep live=F→Rl P S s a' w'→Q .normal a' w'):wpAnyIn (fw r) 0 P .any ops Q ops.size (Array.replicate ops.size false) a w :=
 zu8 hcf hS hok hco hal hpre (TP:=fun t s=>evT cf live t s=some F) (Dies:=fun _ _=>False) (fun g s l h j hj=>.inl (z3m l h j hj)) (fun s a w h hr=>hK s a w (by simpa [evT] using h) hr) (fun _ _ h=>h.elim) htree hr
end
end Nun
namespace Nun
open Go Go.RowKit
def zoh (o:Oper):Option Nat:=match o.op with
 | .call { callee:=.builtin .append,args,.. }=>match args.toList with
   | .tmp t::_=>some t
   | _=>none
 | _=>none
def zkw (P:Program) (nt:Nat) (ops:Array Oper) (draw:Bool):Option (List COper × List COper) :=
 (ops.toList.mapM (zgz P nt ops (ops.toList.filterMap zoh))).bind fun cs =>
   if draw then ((List.range' 1 cs.length).find? fun k=>zy2 ops ((List.zipWith cpO ops.toList cs).take k++cs.drop k) k).map fun k=>((List.zipWith cpO ops.toList cs).take k,cs.drop k) else some ([],cs)
def zxn (qs:List FuncId) (ops:Array Oper) (cs:List COper):List Nat :=
 let an:=ancs ops
 (List.range cs.length).foldl (fun ps i=>if preK qs (atD cs i).op && ((atD cs i).dst.isSome && ((zc9 ops i).all (fun j=>ps.contains j) &&
   ((!memK (atD cs i).op || (List.range cs.length).all fun j=>!wrK (atD cs j).op || (ps.contains j || (an.getD j []).contains i)) && ((!zu4 qs (atD cs i).op || (List.range cs.length).all fun j=>i == j || (!zy4 (atD cs j).op || (zu4 qs (atD cs j).op || (an.getD j []).contains i))) &&
   ((List.range cs.length).all fun j=>i == j || ((atD cs j).dst != (atD cs i).dst && (ps.contains j || ((an.getD j []).contains i || (atD cs i).reads.all fun s=>(atD cs j).dst != some s)))))))) then ps++[i] else ps) []
def mkM (qs:List FuncId) (ops:Array Oper) (c:COper):COper:=match c.op with
 | .loadA y=>if (ops.toList.any fun o=>match o.op with
  | .call { callee:=.value (.func f),.. }=>qs.contains (f+yldF)
  | _=>false)=true then { c with op:=.loadM y } else c
 | _=>c
theorem z3n {P:Program} {nt:Nat} {qs:List FuncId} {ops:Array Oper} {ali:List Nat} {o:Oper} {c:COper} (h:zgz P nt ops ali o=some c):CoR P nt ops ali o (mkM qs ops c):=by
 unfold mkM
 split
 ·rename_i y e
  split
  ·right;left
   refine ⟨y,rfl,?_⟩
   rw [h]
   obtain ⟨dst,g,op⟩:=c
   dsimp only at e
   subst e
   rfl
  ·exact .inl h
 ·exact .inl h
def zlg (P:Program) (qs:List FuncId) (nt:Nat) (ops:Array Oper):Option (List COper × BT) :=
 ((ops.toList.mapM (zgz P nt ops (ops.toList.filterMap zoh))).map fun cs=>cs.map (mkM qs ops)).bind fun cs =>
   if z9f qs ops cs (zxn qs ops cs) then some ((zxn qs ops cs).map (atD cs),mkT ops.size (ancs ops) (zxn qs ops cs) cs ops.size []) else none
def hasQ (qs:List FuncId) (ops:Array Oper):Bool:=ops.toList.any fun o=>match o.op with
 | .call { callee:=.value (.func f),.. }=>qs.contains f || qs.contains (f+yldF)
 | _=>false
def ye4 (P:Program) (qs:List FuncId) (nt:Nat) (ops:Array Oper) (draw:Bool) (l:List Nat):Option CCode :=
 if (draw && hasQ qs ops)=true then (zlg P qs nt ops).map fun q=>.regT l q.1 q.2 else match zkw P nt ops draw with
  | some q=>some (.reg l q.1 q.2)
  | none=>if draw then (zlg P qs nt ops).map fun q=>.regT l q.1 q.2 else none
def z05:CCode:=.cond (.c .unk) .skip .skip
theorem zgb {cf:Callee} {n:Nat} {st:St} {r:Out × St} (h:evC cf n z05 st=some r):False:=by
 simp [z05,evC,X.ev] at h
def zbk (P:Program) (qs:List FuncId) (f nt:Nat):Nat→List (List Nat)→Code→Option (CCode × List (List Nat))
 | _,lv,.skip=>some (.skip,lv)
 | _,l::lv,.region _ ops draw=>match ye4 P qs nt ops draw l with
   | some c=>some (c,lv)
   | none=>some (z05,lv)
 | k,lv,.seq a b=>(zbk P qs f nt k lv a).bind fun q=>(zbk P qs f nt (k+(zap a).length) q.2 b).map fun r=>(.seq q.1 r.1,r.2)
 | k,lv,.cond c a b=>(coX c).bind fun x=>(zbk P qs f nt k lv a).bind fun q=>(zbk P qs f nt (k+(zap a).length) q.2 b).map fun r=>(.cond x q.1 r.1,r.2)
 | k,lv,.block id b=>(zbk P qs f nt k lv b).map fun q=>(.block id q.1,q.2)
 | k,l::lv,.loop b=>(zbk P qs f nt k lv b).map fun q=>(.loop l q.1,q.2)
 | k,l::lv,.rangeFunc g _ _ _=>(coX g).map fun x=>(.range f k l x,lv)
 | _,l::lv,.exit id=>some (.exit id l,lv)
 | _,l::lv,.ret=>some (.ret l,lv)
 | _,lv,_=>some (z05,lv)
def ye5 (P:Program) (qs:List FuncId) (f nt k:Nat) (lv:List (List Nat)) (q:Operand × Array Tmp × Code × Code):Option (List Nat × CCode × CCode) :=
 if q.2.1.toList.all (·<nt) then (zbk P qs f nt (k+1) lv q.2.2.1).bind fun c=>(zbk P qs f nt (k+1+(zap q.2.2.1).length) c.2 q.2.2.2).map fun d=>(q.2.1.toList,c.1,d.1) else none
def zse (P:Program) (qs:List FuncId) (f nt:Nat):Nat→List (List (List Nat))→List (Operand × Array Tmp × Code × Code)→Option (List (List Nat × CCode × CCode))
 | _,_,[]=>some []
 | k,lv::lvs,q::r=>(ye5 P qs f nt k lv q).bind fun c=>(zse P qs f nt (k+1) lvs r).map (c::·)
 | _,[],_::_=>none
def zp3 (P:Program):ResultVar→Option (Sum Nat (Nat × Bool × Nat))
 | .tmp t=>some (.inl t)
 | .cell t ty=>(zdi P ty).bind fun g=>(szOf P ty).bind fun n=>if g=true∨n=1 then some (.inr (t,g,n)) else none
structure Lv where
 main:List (List Nat)
 rngs:List (List (List Nat))
 qs:List FuncId
def zp4 (P:Program) (lv:Lv) (f:FuncId):Option CFun:=match P.funcs[f]? with
 | some fn=>match fn.body with
   | some b=>if fn.name != "runtime.NumGoroutine" then (zbk P lv.qs f fn.ntmps 0 lv.main b).bind fun q=>(zse P lv.qs f fn.ntmps 0 lv.rngs (zap b)).bind fun rg=>(fn.results.toList.mapM (zp3 P)).map fun rs=>⟨fn.ntmps,rs,q.1,rg⟩ else none
   | none=>none
 | none=>none
theorem zsf {P:Program} {qs:List FuncId} {f nt:Nat}:∀ {l:List (Operand × Array Tmp × Code × Code)} {k:Nat} {lvs:List (List (List Nat))} {r:List (List Nat × CCode × CCode)},zse P qs f nt k lvs l=some r→∀ (j:Nat) (c:List Nat × CCode × CCode),r[j]? =some c→∃ q lv,l[j]? =some q∧ye5 P qs f nt (k+j) lv q=some c
 | [],k,lvs,r,h,j,c,hj=>by simp only [zse,Option.some.injEq] at h;subst h;simp at hj
 | q::l,k,[],r,h,j,c,hj=>by simp only [zse] at h;cases h
 | q::l,k,lv::lvs,r,h,j,c,hj=>by
   simp only [zse] at h
   obtain ⟨c0,h1,h⟩:=qb h
   obtain ⟨r',h2,rfl⟩:=qm h
   cases j with
   | zero=>simp at hj;subst hj;exact ⟨q,lv,rfl,h1⟩
   | succ j =>
     obtain ⟨q',lv',k1,k2⟩:=zsf h2 j c (by simpa using hj)
     exact ⟨q',lv',by simpa using k1,by rw [show k+(j+1)=k+1+j by omega];exact k2⟩
def Out.ex:Out→Exit
 | .normal=>.normal
 | .exit id=>.exit id
 | .ret=>.ret
section
variable {P:Program} {qs:List FuncId} {w w':World} {r:Option Nat} {Fr Fr':Nat→Nat} {β β':List Nat} {T:List Deferred} {base nt:Nat} {M:Nat→Prop} {w0:World} {F0:Nat→Nat} {st st':St} {a a':Act} {cf:Callee} {Γ:Glob} {S:S0}
mutual
theorem zy6 {nb:Nat}:∀ (p:PV) (v:Value),p.low nb=true→Rd w Fr β p v→Rd w Fr (β.take nb) p v
 | .unk,_,_,_=>by simp [Rd]
 | .flat u,v,_,k=>by simpa [Rd] using k
 | .slc n cs,v,h,k=>by
   simp only [Rd] at k ⊢
   obtain ⟨b,cap,h1,h2,h3⟩:=k
   refine ⟨b,cap,h1,h2,h3.imp id ?_⟩
   rintro ⟨g,o,vs,ha,hr,hs,ho⟩
   exact ⟨g,o,vs,ha,hr,zi2 cs vs h hs,ho⟩
 | .agg cs,v,h,k=>by
   simp only [Rd] at k ⊢
   obtain ⟨vs,h1,hs,ho⟩:=k
   exact ⟨vs,h1,zi2 cs vs h hs,ho⟩
 | .tup cs,v,h,k=>by
   simp only [Rd] at k ⊢
   obtain ⟨vs,h1,hs⟩:=k
   exact ⟨vs,h1,zi2 cs vs h hs⟩
 | .ptr b o,v,h,k=>by
   simp only [Rd] at k ⊢
   obtain ⟨g,h1,h2⟩:=k
   have:b<nb:=by simpa [PV.low] using h
   exact ⟨g,by rw [List.getElem?_take_of_lt this];exact h1,h2⟩
 | .elt cs,v,h,k=>by
   simp only [Rd] at k ⊢
   obtain ⟨g,o,vs,h1,hr,hs,ho⟩:=k
   exact ⟨g,o,vs,h1,hr,zi2 cs vs h hs,ho⟩
 | .clo f cs,v,h,k=>by
   simp only [Rd] at k ⊢
   obtain ⟨vs,h1,hs⟩:=k
   exact ⟨vs,h1,zi2 cs vs h hs⟩
 | .yld b,v,h,k=>by
   simp only [Rd] at k ⊢
   obtain ⟨g,h1,h2⟩:=k
   have:b<nb:=by simpa [PV.low] using h
   exact ⟨g,by rw [List.getElem?_take_of_lt this];exact h1,h2⟩
 | .bsl b off n,v,h,k=>by
   simp only [Rd] at k ⊢
   obtain ⟨g,a,cap,h1,h2⟩:=k
   have:b<nb:=by simpa [PV.low] using h
   exact ⟨g,a,cap,by rw [List.getElem?_take_of_lt this];exact h1,h2⟩
 | .lp _ _ _ _ _,v,h,k=>by simp only [Rd] at k
theorem zi2 {nb:Nat}:∀ (ps:List PV) (vs:List Value),lows nb ps=true→Rds w Fr β ps vs→Rds w Fr (β.take nb) ps vs
 | [],vs,_,k=>by simpa [Rds] using k
 | p::ps,vs,h,k=>by
   simp only [lows,Bool.and_eq_true] at h
   simp only [Rds] at k ⊢
   obtain ⟨v,r,h1,h2,h3⟩:=k
   exact ⟨v,r,h1,zy6 p v h.1 h2,zi2 ps r h.2 h3⟩
end
theorem zy7 {nb:Nat}:∀ (live:List Nat) (snap:List PV) (i:Nat),lows nb snap=true→(look (live.zip snap) i).low nb=true
 | [],_,i,_=>by simp [look,PV.low]
 | _::_,[],i,_=>by simp [look,PV.low]
 | j::live,p::snap,i,h=>by
   simp only [lows,Bool.and_eq_true] at h
   rw [List.zip_cons_cons,za2]
   split
   ·exact h.1
   ·exact zy7 live snap i h.2
theorem zpp.low {nb:Nat} {cs:Nat × List PV} {g:Nat} (h:zpp P w Fr β cs g) (hl:lows nb cs.2=true):zpp P w Fr (β.take nb) cs g:=by
 rcases h with ⟨vs,e,h1,h2,h3⟩ | ⟨f,k,s,live,snap,h0,r,h1,h2,h3,h4,h5⟩
 ·exact .inl ⟨vs,e,h1,zi2 cs.2 vs hl h2,h3⟩
 ·refine .inr ⟨f,k,s,live,snap,h0,r,h1,h2,h3,h4,fun i=>zy6 _ _ (zy7 live snap i ?_) (h5 i)⟩
  rw [h0] at hl;simpa [lows,PV.low] using hl
theorem Rel.cut (R:Rel P T base M w0 F0 nt st a w Fr β) {nb:Nat} (hsl:∀ i,look st'.sl i=.unk∨(look st'.sl i=look st.sl i∧(look st.sl i).low nb=true)) (hbx:st'.bx=st.bx.take nb) (hlow:∀ cs∈st.bx.take nb,lows nb cs.2=true)
 (how:∀ L∈st'.ow,L∈st.ow∧(∀ i,L=.slot i→look st'.sl i=look st.sl i)∧(∀ b j,L=.cell b j→b<nb)) (hal:st'.al=[]):Rel P T base M w0 F0 nt st' a w Fr (β.take nb):=by
 have hval:∀ L∈st'.ow,∀ v,zay a w (β.take nb) L=some v→zay a w β L=some v:=fun L hL v h=>by
  cases L with
  | slot i=>exact h
  | cell b j =>
    simp only [zay] at h ⊢
    rwa [List.getElem?_take_of_lt ((how _ hL).2.2 b j rfl)] at h
 have hval2:∀ L∈st'.ow,∀ v,zay a w β L=some v→zay a w (β.take nb) L=some v:=fun L hL v h=>by
  cases L with
  | slot i=>exact h
  | cell b j =>
    simp only [zay] at h ⊢
    rwa [List.getElem?_take_of_lt ((how _ hL).2.2 b j rfl)]
 have hpv:∀ L∈st'.ow,∀ p,pvAt st L=some p→pvAt st' L=some p:=fun L hL p h=>by
  cases L with
  | slot i=>simp only [pvAt] at h ⊢;rw [(how _ hL).2.1 i rfl];exact h
  | cell b j =>
    simp only [pvAt] at h ⊢
    rwa [hbx,List.getElem?_take_of_lt ((how _ hL).2.2 b j rfl)]
 refine ⟨fun i=>?_,R.nt,R.df,⟨by rw [hbx,List.length_take,List.length_take,R.bx.1],fun b cs hcs=>?_⟩,R.nd.sublist (List.take_sublist _ _),fun L hL=>?_,fun L hL L' hL' hne v v' g hv hv'=>R.sep L (how L hL).1 L' (how L' hL').1 hne v v' g (hval L hL v hv) (hval L' hL' v' hv'),fun L hL v g hv hg hm=>R.out L (how L hL).1 v g (hval L hL v hv) hg (List.mem_of_mem_take hm),(fun q hq=>by rw [hal] at hq;cases hq),fun g hg=>?_,R.old,R.ge,R.os,R.tape,R.output⟩
 ·rcases hsl i with h | ⟨h1,h2⟩
  ·rw [h];simp [Rd]
  ·rw [h1];exact zy6 _ _ h2 (R.sl i)
 ·rw [hbx] at hcs
  have hb:b<nb:=by
   have:=(qg hcs).1
   rw [List.length_take] at this;omega
  have hl:=hlow cs (List.mem_of_getElem? hcs)
  rw [List.getElem?_take_of_lt hb] at hcs
  obtain ⟨g,h1,h2,h3⟩:=R.bx.2 b cs hcs
  exact ⟨g,by rw [List.getElem?_take_of_lt hb];exact h1,h2,h3.low hl⟩
 ·obtain ⟨v,p,k1,k2,k3⟩:=R.own L (how L hL).1
  exact ⟨v,p,hval2 L hL v k1,hpv L hL p k2,k3⟩
 ·refine R.may g (hg.imp List.mem_of_mem_take ?_)
  rintro ⟨L,hL,v,hv,hg⟩
  exact ⟨L,(how L hL).1,v,hval L hL v hv,hg⟩
theorem Rel.cut0 (R:Rel P T base M w0 F0 nt st a w Fr β) (hsl:∀ i,look st'.sl i=.unk∨look st'.sl i=look st.sl i) (hbx:st'.bx=st.bx) (how:∀ L∈st'.ow,L∈st.ow∧∀ i,L=.slot i→look st'.sl i=look st.sl i) (hal:st'.al=[]):Rel P T base M w0 F0 nt st' a w Fr β:=by
 have hpv:∀ L∈st'.ow,pvAt st' L=pvAt st L:=fun L hL=>by
  cases L with
  | slot i=>simp only [pvAt];rw [(how _ hL).2 i rfl]
  | cell b j=>simp only [pvAt,hbx]
 exact ⟨fun i=>by
  rcases hsl i with h | h
  ·rw [h];simp [Rd]
  ·rw [h];exact R.sl i,R.nt,R.df,by rw [hbx];exact R.bx,R.nd,fun L hL=>by rw [hpv L hL];exact R.own L (how L hL).1,fun L hL L' hL'=>R.sep L (how L hL).1 L' (how L' hL').1,fun L hL=>R.out L (how L hL).1,(fun q hq=>by rw [hal] at hq;cases hq),
  fun g hg=>R.may g (hg.imp id fun ⟨L,k1,k2⟩=>⟨L,(how L k1).1,k2⟩),R.old,R.ge,R.os,R.tape,R.output⟩
theorem zj2 (sl:List (Nat × PV)):∀ (l:List Nat) (i:Nat),look (l.map fun j=>(j,look sl j)) i=if i∈l then look sl i else .unk
 | [],i=>rfl
 | j::l,i=>by
   rw [List.map_cons,za2,zj2 sl l i]
   by_cases h:j=i
   ·subst h;simp
   ·simp [h,Ne.symm h]
theorem z3o {S:S0} (h:Le S.sw S.sF S.sβ w Fr β):S.sβ.length≤β.length:=by
 rcases Nat.lt_or_ge β.length S.sβ.length with h1 | h1
 ·have:=h.box β.length _ (qe h1)
  rw [List.getElem?_eq_none (Nat.le_refl _)] at this;cases this
 ·exact h1
theorem Rl.only0 (h:Rl P S st a w) (live:List Nat) {nb:Nat} (hnb:S.sβ.length≤nb):Rl P S (st.only0 live nb) a w:=by
 obtain ⟨Fr,β,R,hl⟩:=h
 have hsl:∀ i,look (st.only0 live nb).sl i=if i∈live then look st.sl i else .unk:=fun i=>zj2 st.sl live i
 have howm:∀ L,L∈(st.only0 live nb).ow→L∈st.ow∧(∀ i,L=.slot i→i∈live)∧∀ b j,L=.cell b j→b<(trim nb (live.map (look st.sl)) st.bx).length:=fun L hL=>by
  simp only [St.only0,List.mem_append,List.mem_map,List.mem_filter,decide_eq_true_eq] at hL
  rcases hL with ⟨j,⟨h1,h2⟩,rfl⟩ | ⟨h1,h2⟩
  ·exact ⟨h2,(fun i e=>by cases e;exact h1),fun b k e=>by cases e⟩
  ·refine ⟨h1,fun i e=>?_,fun b j e=>?_⟩
   ·subst e;cases h2
   ·subst e;simpa using h2
 by_cases h1:(trim nb (live.map (look st.sl)) st.bx)=st.bx
 ·refine ⟨Fr,β,R.cut0 (fun i=>?_) h1 (fun L hL=>⟨(howm L hL).1,fun i e=>?_⟩) rfl,hl⟩
  ·rw [hsl];split
   ·exact .inr rfl
   ·exact .inl rfl
  ·rw [hsl,if_pos ((howm L hL).2.1 i e)]
 ·have h2:lows nb (live.map (look st.sl))=true∧(st.bx.take nb).all (fun q=>lows nb q.2)=true∧trim nb (live.map (look st.sl)) st.bx=st.bx.take nb:=by
   unfold trim at h1 ⊢
   split at h1
   ·exact absurd rfl h1
   ·rename_i hne
    split at h1
    ·rename_i hc
     rw [if_neg hne,if_pos hc]
     simp only [Bool.and_eq_true] at hc
     exact ⟨hc.1,hc.2,rfl⟩
    ·exact absurd rfl h1
  obtain ⟨k1,k2,k3⟩:=h2
  have lowat:∀ (l:List Nat),lows nb (l.map (look st.sl))=true→∀ i∈l,(look st.sl i).low nb=true:=by
   intro l
   induction l with
   | nil=>intro _ i hi;cases hi
   | cons j l ih =>
     intro h i hi
     simp only [List.map_cons,lows,Bool.and_eq_true] at h
     rcases List.mem_cons.1 hi with rfl | hi
     ·exact h.1
     ·exact ih h.2 i hi
  refine ⟨Fr,β.take nb,R.cut (nb:=nb) (fun i=>?_) k3 (fun cs hcs=>List.all_eq_true.1 k2 cs hcs) (fun L hL=>⟨(howm L hL).1,fun i e=>?_,fun b j e=>?_⟩) rfl,⟨hl.size,hl.fr,hl.cell,fun i g hg=>?_,hl.lp⟩⟩
  ·rw [hsl];split
   ·rename_i hi;exact .inr ⟨rfl,lowat live k1 i hi⟩
   ·exact .inl rfl
  ·rw [hsl,if_pos ((howm L hL).2.1 i e)]
  ·have:=(howm L hL).2.2 b j e
   rw [k3,List.length_take] at this;omega
  ·have:i<nb:=Nat.lt_of_lt_of_le (qg hg).1 hnb
   rw [List.getElem?_take_of_lt this];exact hl.box i g hg
theorem Rl.only (h:Rl P S st a w) (live:List Nat) {nb:Nat} (hnb:S.sβ.length≤nb):Rl P S (st.only live nb) a w:=(h.nrm live).only0 live hnb
theorem zi3 {α γ:Type} {f:α→Option γ}:∀ {l:List α} {r:List γ},l.mapM f=some r→r.length=l.length∧∀ (j:Nat) (c:γ),r[j]? =some c→∃ o,l[j]? =some o∧f o=some c
 | [],r,h=>by simp at h;subst h;exact ⟨rfl,fun j c hj=>by simp at hj⟩
 | x::l,r,h=>by
   rw [List.mapM_cons] at h
   obtain ⟨y,hy,h⟩:=qb h
   obtain ⟨s,hs,h⟩:=qb h
   cases h
   obtain ⟨h1,h2⟩:=zi3 hs
   refine ⟨by simp [h1],fun j c hj=>?_⟩
   cases j with
   | zero=>simp at hj;subst hj;exact ⟨x,rfl,hy⟩
   | succ j=>exact h2 j c (by simpa using hj)
theorem zva (hm:P.follows .mixedOrders=true) (hcf:zbv P Γ cf) (hS:Good Γ S) {id:Nat} {ops:Array Oper} {draw:Bool} {q:List COper × List COper} (hc:zkw P S.nt ops draw=some q) {stk stF:St} (h1:zhh cf q.1 st=some stk) (h2:zc0 cf q.2 stk=some stF)
 (hal:st.al=[]) (hr:Rl P S st a w) {Q:Exit→Act→World→Prop} (hK:∀ a' w',Rl P S stF a' w'→Q .normal a' w'):(Code.region id ops draw).wpIn (fw r) 0 P Q a w:=by
 unfold zkw at hc
 obtain ⟨cs,hcs,hc⟩:=qb hc
 obtain ⟨hlen,hget⟩:=zi3 hcs
 have hco:∀ (j:Nat) (c:COper),cs[j]? =some c→∃ o,ops[j]? =some o∧zgz P S.nt ops (ops.toList.filterMap zoh) o=some c:=fun j c hj=>by
  obtain ⟨o,k1,k2⟩:=hget j c hj
  exact ⟨o,by rw [← Array.getElem?_toList];exact k1,k2⟩
 cases draw with
 | false =>
   simp only [Bool.false_eq_true,if_false,Option.some.injEq] at hc
   subst hc
   simp only [zhh,Option.some.injEq] at h1
   subst h1
   refine wpIn_region ?_
   have:=z3h (r:=r) (rest:=[]) hcf hS (Q:=Q) cs 0 st a w (fun j c hj=>by rw [Nat.zero_add];exact hco j c hj) h2 hr (fun a' w' hr'=>by unfold wpOpsIn;exact hK a' w' hr')
   rw [List.append_nil,hlen,Array.length_toList,← List.range_eq_range'] at this
   exact this
 | true =>
   simp only [if_true] at hc
   obtain ⟨k,hk,rfl⟩:=qm hc
   have hok:=List.find?_some hk
   have hzl:(List.zipWith cpO ops.toList cs).length=cs.length:=by rw [List.length_zipWith];omega
   have hkc:k≤cs.length:=by
    have h9:=hok
    unfold zy2 at h9
    simp only [Bool.and_eq_true,decide_eq_true_eq] at h9
    have h10:=h9.1.1.1.1.1
    rw [List.length_append,List.length_take,List.length_drop,hzl] at h10
    omega
   have htl:((List.zipWith cpO ops.toList cs).take k).length=k:=by rw [List.length_take,hzl];omega
   have hco2:∀ (j:Nat) (c:COper),((List.zipWith cpO ops.toList cs).take k++cs.drop k)[j]? =some c→∃ o,ops[j]? =some o∧CoR P S.nt ops (ops.toList.filterMap zoh) o c:=fun j c hj=>by
    by_cases hjk:j<k
    ·rw [List.getElem?_append_left (by omega),List.getElem?_take_of_lt hjk] at hj
     obtain ⟨o,c0,h3,h4,rfl⟩:=List.getElem?_zipWith_eq_some.1 hj
     obtain ⟨o',k1,k2⟩:=hco j c0 h4
     have:o'=o:=by
      rw [Array.getElem?_toList] at h3
      rw [k1] at h3;exact Option.some.inj h3
     subst this
     exact ⟨o',k1,ykj k2⟩
    ·rw [List.getElem?_append_right (by omega),htl,List.getElem?_drop,show k+(j - k)=j by omega] at hj
     obtain ⟨o,k1,k2⟩:=hco j c hj
     exact ⟨o,k1,.inl k2⟩
   refine wpIn_region_any hm ?_
   have hr':Rl P S st a { w with drawn:=w.drawn+1 }:=by
    obtain ⟨Fr,β,R,hl⟩:=hr
    have hb:Below w.heap.size w { w with drawn:=w.drawn+1 }:=⟨rfl,rfl,rfl,Nat.le_refl _,fun _ _=>rfl⟩
    obtain ⟨R',hl'⟩:=R.grow hb (Fr':=Fr) (fun _ _=>rfl)
    exact ⟨Fr,β,R',hl.trans hl'⟩
   refine z9c hcf hS hok (by rw [List.length_append,htl,List.length_drop];rw [hlen,Array.length_toList] at *;omega) hco2 hal (stk:=stk) (stF:=stF) ?_ ?_ hr' hK
   ·rw [List.take_append_of_le_length (by omega),List.take_of_length_le (by omega)];exact h1
   ·rw [List.drop_append_of_le_length (by omega),List.drop_of_length_le (by omega),List.nil_append];exact h2
theorem ztt (hm:P.follows .mixedOrders=true) (hcf:zbv P Γ cf) (hS:Good Γ S) {id:Nat} {ops:Array Oper} {qs:List FuncId} {q:List COper × BT} (hc:zlg P qs S.nt ops=some q) {live:List Nat} {stk F:St} (h1:evQ cf q.1 st=some stk) (h2:evT cf live q.2 stk=some F)
 (hal:st.al=[]) (hr:Rl P S st a w) {Q:Exit→Act→World→Prop} (hK:∀ s a' w',s.keep live=F→Rl P S s a' w'→Q .normal a' w'):(Code.region id ops true).wpIn (fw r) 0 P Q a w:=by
 unfold zlg at hc
 obtain ⟨cs,hcs',hc⟩:=qb hc
 obtain ⟨cs0,hcs,rfl⟩:=qm hcs'
 obtain ⟨hlen,hget⟩:=zi3 hcs
 split at hc
 case isFalse=>cases hc
 rename_i hok
 cases hc
 refine wpIn_region_any hm ?_
 have hr':Rl P S st a { w with drawn:=w.drawn+1 }:=by
  obtain ⟨Fr,β,R,hl⟩:=hr
  have hb:Below w.heap.size w { w with drawn:=w.drawn+1 }:=⟨rfl,rfl,rfl,Nat.le_refl _,fun _ _=>rfl⟩
  obtain ⟨R',hl'⟩:=R.grow hb (Fr':=Fr) (fun _ _=>rfl)
  exact ⟨Fr,β,R',hl.trans hl'⟩
 exact zu9 hcf hS (ali:=ops.toList.filterMap zoh) hok (fun j c hj=>by
  rw [List.getElem?_map] at hj
  obtain ⟨c0,hj2,rfl⟩:=qm hj
  obtain ⟨o,k1,k2⟩:=hget j c0 hj2
  exact ⟨o,by rw [← Array.getElem?_toList];exact k1,z3n k2⟩) hal h1 h2 hr' hK
theorem z3p {live:List Nat}:∀ (t:BT) (s F:St),evT cf live t s=some F→F.al=[]
 | .done,s,F,h=>by simp only [evT,Option.some.injEq] at h;subst h;rfl
 | .one o t,s,F,h=>by
   simp only [evT] at h
   obtain ⟨s',_,h2⟩:=qb h
   exact z3p t s' F h2
 | .two o t r,s,F,h=>by
   simp only [evT] at h
   exact z3p r s F (zmq h).2
theorem zvb {body:St→Option (Out × St)} {live:List Nat} {nb:Nat} (hb:∀ st o st',body st=some (o,st')→st.al=[]→st'.al=[]):∀ (n:Nat) (st:St) (o:Out) (st':St),zb3 body live nb n st=some (o,st')→st.al=[]→st'.al=[]
 | 0,_,_,_,h,_=>by cases h
 | n+1,st,o,st',h,hal=>by
   simp only [zb3] at h
   obtain ⟨⟨o1,s1⟩,h1,h2⟩:=qb h
   have ha:=hb _ _ _ h1 hal
   cases o1 with
   | normal=>exact zvb hb n _ o st' h2 rfl
   | exit id=>cases h2;exact ha
   | ret=>cases h2;exact ha
theorem z06 {f k:Nat} {live:List Nat} {g:PV} {o:Out} (h:zgp cf f k live g st=some (o,st')) (ha:st.al=[]):st'.al=[]:=by
 unfold zgp at h
 split at h
 case h_2=>cases h
 split at h
 ·cases h
 obtain ⟨s2,h1,h2⟩:=qb h
 have h3:s2.al=[]:=by
  unfold callBx at h1
  obtain ⟨⟨vs,os,bx,oc⟩,_,rfl⟩:=qm h1
  simp [ha]
 split at h2
 ·split at h2<;>first | (cases h2;exact h3) | cases h2
 ·cases h2
theorem zlh {n:Nat}:∀ (c:CCode) (st:St) (o:Out) (st':St),evC cf n c st=some (o,st')→st.al=[]→st'.al=[]
 | .skip,st,o,st',h,ha=>by cases h;exact ha
 | .reg live pre tail,st,o,st',h,ha=>by
   simp only [evC] at h
   obtain ⟨s,_,h⟩:=qm h
   cases h;rfl
 | .regT live pre t,st,o,st',h,ha=>by
   simp only [evC] at h
   obtain ⟨s,h1,h⟩:=qm h
   obtain ⟨sk,_,h2⟩:=qb h1
   cases h;exact z3p t sk _ h2
 | .seq a b,st,o,st',h,ha=>by
   simp only [evC] at h
   obtain ⟨⟨o1,s1⟩,h1,h2⟩:=qb h
   have h3:=zlh a st o1 s1 h1 ha
   cases o1 with
   | normal=>exact zlh b s1 o st' h2 h3
   | exit id=>cases h2;exact h3
   | ret=>cases h2;exact h3
 | .cond x a b,st,o,st',h,ha=>by
   simp only [evC] at h
   split at h
   ·split at h
    ·exact zlh a st o st' h ha
    ·exact zlh b st o st' h ha
   ·cases h
 | .block id b,st,o,st',h,ha=>by
   simp only [evC] at h
   obtain ⟨⟨o1,s1⟩,h1,h2⟩:=qm h
   have h3:=zlh b st o1 s1 h1 ha
   cases o1 with
   | normal=>cases h2;rfl
   | exit j =>
     dsimp only at h2
     split at h2
     ·cases h2;rfl
     ·cases h2;exact h3
   | ret=>cases h2;exact h3
 | .loop live b,st,o,st',h,_=>by
   simp only [evC] at h
   exact zvb (fun st o st' h ha=>zlh b st o st' h ha) n _ o st' h rfl
 | .range f k live g,st,o,st',h,ha=>by
   simp only [evC] at h
   exact z06 h ha
 | .exit id live,st,o,st',h,ha=>by cases h;rfl
 | .ret live,st,o,st',h,ha=>by cases h;rfl
theorem Rl.keep0 (h:Rl P S st a w) (live:List Nat):Rl P S (st.keep0 live) a w:=by
 obtain ⟨Fr,β,R,hl⟩:=h
 have hsl:∀ i,look (st.keep0 live).sl i=if i∈live then look st.sl i else .unk:=fun i=>zj2 st.sl live i
 refine ⟨Fr,β,R.cut0 (fun i=>?_) rfl (fun L hL=>?_) rfl,hl⟩
 ·rw [hsl];split
  ·exact .inr rfl
  ·exact .inl rfl
 ·simp only [St.keep0,List.mem_append,List.mem_map,List.mem_filter,decide_eq_true_eq] at hL
  rcases hL with ⟨j,⟨h1,h2⟩,rfl⟩ | ⟨h1,h2⟩
  ·exact ⟨h2,fun i e=>by cases e;rw [hsl,if_pos h1]⟩
  ·exact ⟨h1,fun i e=>by subst e;cases h2⟩
theorem Rl.keep (h:Rl P S st a w) (live:List Nat):Rl P S (st.keep live) a w:=(h.nrm live).keep0 live
theorem z3q {nb:Nat}:∀ (sl:List (Nat × PV)) (i:Nat),lows nb (sl.map (·.2))=true→(look sl i).low nb=true
 | [],i,_=>by simp [look,PV.low]
 | (j,p)::r,i,h=>by
   simp only [List.map_cons,lows,Bool.and_eq_true] at h
   rw [za2]
   split
   ·exact h.1
   ·exact z3q r i h.2
theorem Rl.cutB (h:Rl P S st a w) {nb:Nat} (hnb:S.sβ.length≤nb):Rl P S (st.cutB nb) a w:=by
 obtain ⟨Fr,β,R,hl⟩:=h
 by_cases h1:(trim nb (st.sl.map (·.2)) st.bx)=st.bx
 ·refine ⟨Fr,β,R.cut0 (fun i=>.inr rfl) h1 (fun L hL=>?_) rfl,hl⟩
  simp only [St.cutB,h1,if_true] at hL
  exact ⟨hL,fun i _=>rfl⟩
 ·have h2:lows nb (st.sl.map (·.2))=true∧(st.bx.take nb).all (fun q=>lows nb q.2)=true∧trim nb (st.sl.map (·.2)) st.bx=st.bx.take nb:=by
   unfold trim at h1 ⊢
   split at h1
   ·exact absurd rfl h1
   ·rename_i hne
    split at h1
    ·rename_i hc
     rw [if_neg hne,if_pos hc]
     simp only [Bool.and_eq_true] at hc
     exact ⟨hc.1,hc.2,rfl⟩
    ·exact absurd rfl h1
  obtain ⟨k1,k2,k3⟩:=h2
  have hne:(st.bx.take nb).length≠st.bx.length:=fun e=>h1 (by
   rw [k3]
   have:st.bx.length≤nb:=by rw [List.length_take] at e;omega
   exact List.take_of_length_le this)
  have howm:∀ L,L∈(st.cutB nb).ow→L∈st.ow∧∀ b j,L=.cell b j→b<nb:=fun L hL=>by
   simp only [St.cutB,k3,if_neg hne] at hL
   obtain ⟨m1,m2⟩:=List.mem_filter.1 hL
   refine ⟨m1,fun b j e=>?_⟩
   subst e
   have:b<(st.bx.take nb).length:=by simpa using m2
   rw [List.length_take] at this;omega
  refine ⟨Fr,β.take nb,R.cut (nb:=nb) (fun i=>.inr ⟨rfl,z3q _ i k1⟩) k3 (fun cs hcs=>List.all_eq_true.1 k2 cs hcs) (fun L hL=>⟨(howm L hL).1,fun i _=>rfl,(howm L hL).2⟩) rfl,⟨hl.size,hl.fr,hl.cell,fun i g hg=>?_,hl.lp⟩⟩
  have:i<nb:=Nat.lt_of_lt_of_le (qg hg).1 hnb
  rw [List.getElem?_take_of_lt this];exact hl.box i g hg
theorem zp5 {fr:FuncId} {tmps:Array Value} {ps:Array Tmp} {az b:Code} (hrd:∀ l,r=some l→∃ rec,w.heap[l]? =some (Obj.loop rec)) :
 ∃ l mk w1 df,(Instr.enterLoop fr tmps ps az b r).run P w=.ok (l,mk) w1∧Below w.heap.size w w1∧w.heap.size≤l∧w1.heap[l]? =some (.loop { state:=.ready,pending:=none,fn:=fr,tmps,params:=ps,assign:=az,body:=b,defers:=df }) ∧
   (mk=[]∨∃ D,mk=[mark D]∧w.heap.size≤D∧w1.heap[D]? =some (.deferred (some []))):=by
 cases r with
 | none =>
   refine ⟨_,_,_,w.heap.size,run_enterLoop_outer fr tmps ps az b,(zhi w _).alloc (by rw [World.size_alloc];omega) _,by omega,?_,.inr ⟨w.heap.size,rfl,Nat.le_refl _,?_⟩⟩
   ·have:=World.alloc_heap_new (w.alloc (.deferred (some []))) (.loop { state:=.ready,pending:=none,fn:=fr,tmps,params:=ps,assign:=az,body:=b,defers:=w.heap.size })
    rw [World.size_alloc] at this;exact this
   ·have hb:Below (w.alloc (.deferred (some []))).heap.size (w.alloc (.deferred (some []))) ((w.alloc (.deferred (some []))).alloc (.loop { state:=.ready,pending:=none,fn:=fr,tmps,params:=ps,assign:=az,body:=b,defers:=w.heap.size })):=zhi _ _
    rw [hb.block w.heap.size (by rw [World.size_alloc];omega)]
    exact World.alloc_heap_new w _
 | some l0 =>
   obtain ⟨r0,h0⟩:=hrd l0 rfl
   refine ⟨w.heap.size,[],w.alloc (.loop { state:=.ready,pending:=none,fn:=fr,tmps,params:=ps,assign:=az,body:=b,defers:=r0.defers }),r0.defers,?_,zhi w _,Nat.le_refl _,World.alloc_heap_new w _,.inl rfl⟩
   unfold Instr.enterLoop
   simp only [Sem.run_bind,run_newObj_alloc,Result.andThen,Sem.run_pure,run_getLoop h0]
theorem zxo (hcf:zbv P Γ cf) (hS:Good Γ S) {f k:Nat} {live:List Nat} {g:Operand} {ps:Array Tmp} {az b:Code} {y:X} (hy:coX g=some y) (hat:rangeAt P f k=some (g,ps,az,b)) (hfn:∃ fn,P.funcs[f]? =some fn∧S.nt=fn.ntmps)
 (hrd:∀ l,r=some l→∃ rec,S.sw.heap[l]? =some (Obj.loop rec)) {o:Out} (he:zgp cf f k live (y.ev st.sl) st=some (o,st')) (hr:Rl P S st a w) {Q:Exit→Act→World→Prop} (hK:∀ a' w',Rl P S st' a' w'→Q o.ex a' w'):(Code.rangeFunc g ps az b).wpIn (fw r) 0 P Q a w:=by
 obtain ⟨Fr,β,R,hl⟩:=hr
 unfold zgp at he
 split at he
 case h_2=>cases he
 rename_i h caps e1
 split at he
 ·cases he
 rename_i hne
 obtain ⟨s2,h1,h2⟩:=qb he
 have hx:=zbl R.sl hy
 rw [e1] at hx
 simp only [Rd] at hx
 obtain ⟨cvs,hxv,hcr⟩:=hx
 refine wpIn_rangeFunc fun fr _=>?_
 obtain ⟨l,mk,w1,df,k1,hb,k2,k3,k4⟩:=zp5 (P:=P) (w:=w) (fr:=fr) (tmps:=a.tmps) (ps:=ps) (az:=az) (b:=b) (r:=r) fun l0 e=>by
  obtain ⟨rec,hrec⟩:=hrd l0 e
  exact hl.lp _ _ hrec
 obtain ⟨R1,hl1⟩:=R.addBox (Fr':=upd Fr l 0) (l:=l) (cs:=(0,[.lp f k .ready live (live.map (look st.sl))])) hb (fun g h=>zj0 (Nat.lt_of_lt_of_le h k2)) k2 (by simp [upd]) fun hl1=>.inr ⟨f,k,.ready,live,_,rfl,_,k3,by
  obtain ⟨fn,q1,q2⟩:=hfn
  exact ⟨fn,q1,by rw [← q2];exact R.nt⟩,⟨g,hat⟩,⟨rfl,rfl⟩,fun i=>by
  have:look (live.zip (live.map (look st.sl))) i=if i∈live then look st.sl i else .unk:=by
   rw [← zj2 st.sl live i]
   congr 1
   rw [List.zip_map_right]
   clear h1 h2 he hK
   induction live with
   | nil=>rfl
   | cons j l ih=>simp only [List.zip_cons_cons,List.map_cons];rw [ih];rfl
  rw [this];split
  ·exact (R.sl i).mono hl1
  ·simp [Rd]⟩
 have hbl:st.bx.length=β.length:=R.bx.1
 have R1':Rel P S.T S.base S.M S.w0 S.F0 S.nt { st with bx:=st.bx++[(0,[.lp f k .ready live (live.map (look st.sl))])] } { a with defers:=mk++a.defers } w1 (upd Fr l 0) (β++[l]):=by
  rcases k4 with rfl | ⟨D,rfl,k5,k6⟩
  ·exact R1
  ·refine R1.addMark (Nat.le_trans R.ge k5) k6 fun Ds' e hm=>?_
   obtain ⟨Ds,d1,d2,d3⟩:=R.df
   rw [d2] at e
   rw [← zml e] at hm
   have:=(Array.getElem?_eq_some_iff.1 (d3 D hm).2).1
   omega
 have hbox:(β++[l])[st.bx.length]? =some l:=by rw [hbl,List.getElem?_append_right (Nat.le_refl _)];simp
 have hargs:Rds w1 (upd Fr l 0) (β++[l]) (.yld st.bx.length::caps) (.func (.yield l) #[] #[]::cvs):=by
  simp only [Rds]
  exact ⟨_,_,rfl,by simp only [Rd];exact ⟨l,hbox,rfl⟩,Rds.mono hl1 _ _ hcr⟩
 have hen:=zto hcf (S:={ S with sw:=w1,sF:=upd Fr l 0,sβ:=β++[l] }) h1 (fun d h=>by cases h) R1' (Le.refl _ _ _) hargs (hS.at R1') hS.dis (K:=fun a' w'=>Rl P { S with sw:=w1,sF:=upd Fr l 0,sβ:=β++[l] } s2 a' w') (fun a' w' h=>h)
 unfold Enters at hen
 rw [if_neg hne] at hen
 obtain ⟨hent,hcall⟩:=hen
 refine ⟨l,mk,w1,{ target:=.fn (.func h) cvs.toArray,args:=#[.func (.yield l) #[] #[]] },w1,h,(.func (.yield l) #[] #[]::cvs).toArray,w1,k1,?_,fun _ _=>trivial,?_,(fun h=>by cases h),?_⟩
 ·have:a.eval g=.func (.func h) #[] cvs.toArray:=hxv
  simp only [rangeCall,resolve,this,Deferred.ofValue,Sem.run_bind,Sem.run_pure]
  simp [Act.eval]
 ·have:=zil (P:=P) (w:=w1) hent (args:=(.func (.yield l) #[] #[]::cvs).toArray)
  rw [← this]
  simp only [invoke]
  congr 2
  apply Array.ext';simp
 ·refine zo3.2 (hcall.mono fun e w3 hq=>?_)
  obtain ⟨v,rfl,Fr3,β3,R3,hl3⟩:=hq
  have ha3:({ a with defers:=mk++a.defers }:Act).put none v={ a with defers:=mk++a.defers }:=rfl
  rw [ha3] at R3
  simp only [rangePost]
  have hb3:β3[st.bx.length]? =some l:=hl3.box _ _ hbox
  split at h2
  case h_2=>cases h2
  rename_i e0 f' k' s live' snap' hs2
  obtain ⟨g3,b1,b2,b3⟩:=R3.bx.2 _ _ hs2
  rw [hb3] at b1;cases b1
  have hrec:LpR P w3 Fr3 β3 f' k' s live' snap' l:=by
   rcases b3 with ⟨vs,e,_,h2,_⟩ | ⟨_,_,_,_,_,he,h1⟩
   ·simp only [Rds] at h2;obtain ⟨_,_,_,h2,_⟩:=h2;simp only [Rd] at h2
   ·cases he;exact h1
  obtain ⟨r3,q1,q2,q3,q4,q5⟩:=hrec
  have fin:r3.state≠.busy→∀ o1:Out,(o1=o∧{ s2 with bx:=s2.bx.set st.bx.length (0,[.lp f' k' .over live' snap']) }=st')→(o1=.normal∧r3.pending=none∨∃ j:Jmp,r3.pending=some j.code∧o1=(match j with | .exit i=>.exit i | .ret=>.ret))→∃ jump w₄,(Instr.endLoop l).run P w3=.ok jump w₄∧(match jump with
   | none=>Q .normal { a with defers:=mk++a.defers } w₄
   | some c=>c.wpIn (fw r) 0 P Q { a with defers:=mk++a.defers } w₄):=fun hbusy o1 ho hj=>by
   obtain ⟨rfl,rfl⟩:=ho
   obtain ⟨R4,hl4⟩:=R3.setLp (r':={ r3 with state:=.exhausted }) (f':=f') (k':=k') (s':=.over) (live':=live') (snap':=snap') hs2 hb3 fun hl4=>⟨_,World.putObj_heap_same (Array.getElem?_eq_some_iff.1 q1).1,q2,q3,trivial,fun i=>(q5 i).mono hl4⟩
   have hfin:=hK _ _ ⟨Fr3,β3,R4,(hl.trans hl1).trans (hl3.trans hl4)⟩
   refine ⟨_,_,run_endLoop q1 hbusy,?_⟩
   rcases hj with ⟨rfl,hp⟩ | ⟨j,hp,rfl⟩
   ·rw [hp] at hfin ⊢;exact hfin
   ·rw [hp] at hfin ⊢
    cases j with
    | exit i=>exact wpIn_exit hfin
    | ret=>exact wpIn_ret hfin
  dsimp only at h2
  split at h2
  ·cases h2
   exact fin (by rw [q4.1];simp) .normal ⟨rfl,rfl⟩ (.inl ⟨rfl,q4.2⟩)
  ·rename_i i
   cases h2
   exact fin (by rw [q4.1];simp) (.exit i) ⟨rfl,rfl⟩ (.inr ⟨.exit i,q4.2,rfl⟩)
  ·cases h2
   exact fin (by rw [q4.1];simp) .ret ⟨rfl,rfl⟩ (.inr ⟨.ret,q4.2,rfl⟩)
  ·cases h2
theorem ze8 (hm:P.follows .mixedOrders=true) (hcf:zbv P Γ cf) (hS:Good Γ S) {n:Nat} {f:Nat} (hfn:∃ fn,P.funcs[f]? =some fn∧S.nt=fn.ntmps) (hrd:∀ l,r=some l→∃ rec,S.sw.heap[l]? =some (Obj.loop rec)) :
 ∀ (code:Code) (k0:Nat) (lv:List (List Nat)) (c:CCode) (lv':List (List Nat)),zbk P qs f S.nt k0 lv code=some (c,lv')→(∀ j q,(zap code)[j]? =some q→rangeAt P f (k0+j)=some q)→∀ (st st':St) (o:Out) (a:Act) (w:World) (Q:Exit→Act→World→Prop),
 evC cf n c st=some (o,st')→st.al=[]→Rl P S st a w→(∀ a' w',Rl P S st' a' w'→Q o.ex a' w')→code.wpIn (fw r) 0 P Q a w:=by
 intro code
 induction code with
 | skip =>
   intro k0 lv c lv' hc hra st st' o a w Q he _ hr hK
   simp only [zbk] at hc;cases hc
   cases he
   exact wpIn_skip (hK a w hr)
 | region id ops draw =>
   intro k0 lv c lv' hc hra st st' o a w Q he hal hr hK
   cases lv with
   | nil=>simp only [zbk] at hc;cases hc;exact (zgb he).elim
   | cons l lv =>
     simp only [zbk] at hc
     split at hc
     case h_2=>cases hc;exact (zgb he).elim
     rename_i c0 hc0
     cases hc
     unfold ye4 at hc0
     have viaT:∀ q:List COper × BT,zlg P qs S.nt ops=some q→draw=true→CCode.regT l q.1 q.2=c→(Code.region id ops draw).wpIn (fw r) 0 P Q a w:=fun q hq hd hc=>by
      cases hc
      subst hd
      simp only [evC] at he
      obtain ⟨sF,h1,h2⟩:=qm he
      obtain ⟨sk,h3,h4⟩:=qb h1
      cases h2
      exact ztt hm hcf hS hq h3 h4 hal hr fun s a' w' hs hr'=>hK a' w' (hs ▸ hr'.keep l)
     split at hc0
     ·rename_i hb
      obtain ⟨q,hq,hc⟩:=qm hc0
      simp only [Bool.and_eq_true] at hb
      exact viaT q hq hb.1 hc
     split at hc0
     ·rename_i q hq
      cases hc0
      simp only [evC] at he
      obtain ⟨sF,h1,h2⟩:=qm he
      obtain ⟨sk,h3,h4⟩:=qb h1
      cases h2
      exact zva hm hcf hS hq h3 h4 hal hr fun a' w' hr'=>hK a' w' (hr'.keep l)
     ·split at hc0
      ·rename_i hd
       obtain ⟨q,hq,hc⟩:=qm hc0
       exact viaT q hq hd hc
      ·cases hc0
 | seq x y ihx ihy =>
   intro k0 lv c lv' hc hra st st' o a w Q he hal hr hK
   simp only [zbk] at hc
   obtain ⟨⟨c1,l1⟩,h1,hc⟩:=qb hc
   obtain ⟨⟨c2,l2⟩,h2,hc⟩:=qm hc
   cases hc
   simp only [evC] at he
   obtain ⟨⟨o1,s1⟩,h3,h4⟩:=qb he
   refine wpIn_seq (ihx k0 lv c1 l1 h1 (fun j q hj=>hra j q (by simp only [zap];rw [List.getElem?_append_left (qg hj).1];exact hj)) st s1 o1 a w _ h3 hal hr fun a' w' hr'=>?_)
   have ha1:=zlh c1 st o1 s1 h3 hal
   cases o1 with
   | normal=>exact ihy _ l1 c2 l2 h2 (fun j q hj=>by
    have:=hra ((zap x).length+j) q (by simp only [zap];rw [List.getElem?_append_right (by omega)];simpa using hj)
    rwa [← Nat.add_assoc] at this) s1 st' o a' w' Q h4 ha1 hr' hK
   | exit id=>cases h4;exact hK a' w' hr'
   | ret=>cases h4;exact hK a' w' hr'
 | cond x a1 b1 iha ihb =>
   intro k0 lv c lv' hc hra st st' o a w Q he hal hr hK
   simp only [zbk] at hc
   obtain ⟨y,hy,hc⟩:=qb hc
   obtain ⟨⟨c1,l1⟩,h1,hc⟩:=qb hc
   obtain ⟨⟨c2,l2⟩,h2,hc⟩:=qm hc
   cases hc
   simp only [evC] at he
   split at he
   ·rename_i t e1
    obtain ⟨Fr,β,R,hl⟩:=hr
    have hx:=zbl R.sl hy
    rw [e1] at hx
    obtain ⟨hx,_⟩:=zbe hx
    refine wpIn_cond hx ?_
    cases t with
    | true =>
      simp only [if_true] at he ⊢
      exact iha k0 lv c1 l1 h1 (fun j q hj=>hra j q (by simp only [zap];rw [List.getElem?_append_left (qg hj).1];exact hj)) st st' o a w Q he hal ⟨Fr,β,R,hl⟩ hK
    | false =>
      simp only [Bool.false_eq_true,if_false] at he ⊢
      exact ihb _ l1 c2 l2 h2 (fun j q hj=>by
       have:=hra ((zap a1).length+j) q (by simp only [zap];rw [List.getElem?_append_right (by omega)];simpa using hj)
       rwa [← Nat.add_assoc] at this) st st' o a w Q he hal ⟨Fr,β,R,hl⟩ hK
   ·cases he
 | block id b ih =>
   intro k0 lv c lv' hc hra st st' o a w Q he hal hr hK
   simp only [zbk] at hc
   obtain ⟨⟨c1,l1⟩,h1,hc⟩:=qm hc
   cases hc
   simp only [evC] at he
   obtain ⟨⟨o1,s1⟩,h3,h4⟩:=qm he
   have hnb:S.sβ.length≤st.bx.length:=by
    obtain ⟨Fr,β,R,hl⟩:=hr
    rw [R.bx.1];exact z3o hl
   refine wpIn_block (ih k0 lv c1 l1 h1 hra st s1 o1 a w _ h3 hal hr fun a' w' hr'=>?_)
   cases o1 with
   | normal=>cases h4;exact hK a' w' (hr'.cutB hnb)
   | ret=>cases h4;exact hK a' w' hr'
   | exit j =>
     dsimp only at h4
     simp only [Out.ex,Exit.inBlock]
     split at h4
     ·rename_i e;cases h4;rw [if_pos e];exact hK a' w' (hr'.cutB hnb)
     ·rename_i e;cases h4;rw [if_neg e];exact hK a' w' hr'
 | loop b ih =>
   intro k0 lv c lv' hc hra st st' o a w Q he hal hr hK
   cases lv with
   | nil=>simp only [zbk] at hc;cases hc;exact (zgb he).elim
   | cons l lv =>
     simp only [zbk] at hc
     obtain ⟨⟨c1,l1⟩,h1,hc⟩:=qm hc
     cases hc
     simp only [evC] at he
     have hnb:S.sβ.length≤st.bx.length:=by
      obtain ⟨Fr,β,R,hl⟩:=hr
      rw [R.bx.1];exact z3o hl
     intro bf k cs hbf hff hrm
     have key:∀ (m:Nat) (s:St) (a:Act) (w:World),zb3 (evC cf n c1) l st.bx.length m s=some (o,st')→s.al=[]→Rl P S s a w→∃ e a' w',Q e a' w'∧ArrivesIn (Machine.fenced P (fw r)) P (lone (bf.atR a (.code b::.inLoop b::k)) cs w) bf k cs e a' w':=by
      intro m
      induction m with
      | zero=>intro s a w h;cases h
      | succ m ihm =>
        intro s a w h hal hr
        simp only [zb3] at h
        obtain ⟨⟨o1,s1⟩,h3,h4⟩:=qb h
        obtain ⟨e,a1,w1,hq,harr⟩:=ih k0 lv c1 l1 h1 hra s s1 o1 a w (fun e a' w'=>e=o1.ex∧Rl P S s1 a' w') h3 hal hr (fun a' w' hr'=>⟨rfl,hr'⟩) bf (.inLoop b::k) cs hbf hff hrm
        obtain ⟨rfl,hr1⟩:=hq
        cases o1 with
        | normal =>
          obtain ⟨e2,a2,w2,hq2,harr2⟩:=ihm _ a1 w1 h4 rfl (hr1.only l hnb)
          exact ⟨e2,a2,w2,hq2,.of_steps (StepsIn.trans harr (.one (fenced_calm hff hrm rfl) stepR_inLoop)) harr2⟩
        | exit id=>cases h4;exact ⟨_,a1,w1,hK a1 w1 hr1,.pass (x:=.inLoop b) rfl (fun _ _=>.inl (by simp [Out.ex])) harr⟩
        | ret=>cases h4;exact ⟨_,a1,w1,hK a1 w1 hr1,.pass (x:=.inLoop b) rfl (fun _ _=>.inl (by simp [Out.ex])) harr⟩
     obtain ⟨e,a',w',hq,harr⟩:=key n _ a w he rfl (hr.only l hnb)
     exact ⟨e,a',w',hq,.of_steps (.one (fenced_calm hff hrm rfl) stepR_loop) harr⟩
 | exit id =>
   intro k0 lv c lv' hc hra st st' o a w Q he _ hr hK
   cases lv with
   | nil=>simp only [zbk] at hc;cases hc;exact (zgb he).elim
   | cons l lv =>
     simp only [zbk] at hc;cases hc
     simp only [evC] at he;cases he
     exact wpIn_exit (hK a w (hr.keep l))
 | ret =>
   intro k0 lv c lv' hc hra st st' o a w Q he _ hr hK
   cases lv with
   | nil=>simp only [zbk] at hc;cases hc;exact (zgb he).elim
   | cons l lv =>
     simp only [zbk] at hc;cases hc
     simp only [evC] at he;cases he
     exact wpIn_ret (hK a w (hr.keep l))
 | rangeFunc g ps az b _ _ =>
   intro k0 lv c lv' hc hra st st' o a w Q he hal hr hK
   cases lv with
   | nil=>simp only [zbk] at hc;cases hc;exact (zgb he).elim
   | cons l lv =>
     simp only [zbk] at hc
     obtain ⟨y,hy,hc⟩:=qm hc
     cases hc
     simp only [evC] at he
     exact zxo hcf hS hy (hra 0 _ rfl) hfn hrd he hr hK
 | scope b _=>intro k0 lv c lv' hc hra st st' o a w Q he;simp only [zbk] at hc;cases hc;exact (zgb he).elim
 | label l=>intro k0 lv c lv' hc hra st st' o a w Q he;simp only [zbk] at hc;cases hc;exact (zgb he).elim
 | goto l=>intro k0 lv c lv' hc hra st st' o a w Q he;simp only [zbk] at hc;cases hc;exact (zgb he).elim
 | refuse s=>intro k0 lv c lv' hc hra st st' o a w Q he;simp only [zbk] at hc;cases hc;exact (zgb he).elim
end
end Nun
namespace Nun
open Go Go.RowKit
section
variable {P:Program} {w w':World} {Fr Fr':Nat→Nat} {β β':List Nat} {T:List Deferred} {base nt:Nat} {M:Nat→Prop} {w0:World} {F0:Nat→Nat} {st st':St} {a a':Act} {cf:Callee} {Γ:Glob} {S:S0}
theorem zvc:∀ (ps:List PV) (k i:Nat),look (zfi k ps) i=if k≤i then ps.getD (i - k) .unk else .unk
 | [],k,i=>by simp [zfi,look]
 | p::ps,k,i=>by
   simp only [zfi,za2]
   rw [zvc ps (k+1) i]
   by_cases h:k=i
   ·subst h;simp
   ·by_cases hlt:k≤i
    ·rw [if_neg h,if_pos hlt,if_pos (by omega)]
     have:i - k=(i - (k+1))+1:=by omega
     rw [this];rfl
    ·rw [if_neg h,if_neg hlt,if_neg (by omega)]
def zy8 (a:Act):ResultVar→Sem Value
 | .tmp t=>pure (a.tmps.getD t undef)
 | .cell x t=>do loadVar t (← asAddr (a.tmps.getD x undef))
theorem z07 (fn:Func) (a:Act):results fn a.tmps=(do
 let vs ← fn.results.mapM (zy8 a)
 pure (if h:vs.size=1 then vs[0] else .tuple vs)):=by
 unfold results
 congr 2
theorem z3r {rs:List ResultVar} {cs:List (Sum Nat (Nat × Bool × Nat))} (R:Rel P T base M w0 F0 nt st a w Fr β):∀ {rs:List ResultVar} {cs:List (Sum Nat (Nat × Bool × Nat))} {vs:List PV},rs.mapM (zp3 P)=some cs→cs.mapM (resV st)=some vs →
 ∃ us,(rs.mapM (zy8 a)).run P w=.ok us w∧Rds w Fr β vs us
 | [],cs,vs,h1,h2=>by
   simp at h1;subst h1
   simp at h2;subst h2
   exact ⟨[],rfl,by simp [Rds]⟩
 | r::rs,cs,vs,h1,h2=>by
   rw [List.mapM_cons] at h1
   obtain ⟨c,hc,h1⟩:=qb h1
   obtain ⟨cs',hcs,h1⟩:=qb h1
   cases h1
   rw [List.mapM_cons] at h2
   obtain ⟨p,hp,h2⟩:=qb h2
   obtain ⟨ps,hps,h2⟩:=qb h2
   cases h2
   obtain ⟨us,k1,k2⟩:=z3r (rs:=rs) (cs:=cs') R hcs hps
   have one:∃ u,(zy8 a r).run P w=.ok u w∧Rd w Fr β p u:=by
    cases r with
    | tmp t =>
      simp only [zp3,Option.some.injEq] at hc;subst hc
      simp only [resV,Option.some.injEq] at hp;subst hp
      exact ⟨_,rfl,R.sl t⟩
    | cell x ty =>
      simp only [zp3] at hc
      obtain ⟨g,hg,hc⟩:=qb hc
      obtain ⟨n,hn,hc⟩:=qb hc
      split at hc
      ·rename_i hgn
       cases hc
       have hx:=R.sl x
       simp only [resV] at hp
       split at hp
       ·rename_i b o e1
        rw [e1] at hx
        simp only [Rd] at hx
        obtain ⟨gb,hgb,hx⟩:=hx
        split at hp
        ·rename_i cells hcells
         split at hp
         ·rename_i hle
          obtain ⟨hcells,_,g',vs,e,b1,b2,b3,b4,b5,_⟩:=R.bx.cells hcells
          rw [hgb] at b1;cases b1
          have hvl:=b3.length
          have hcell:∀ j v,((vs.drop o).take n)[j]? =some v→w.cell? ⟨gb,o+j,none⟩=some v:=fun j v hj=>by
           rw [List.getElem?_take] at hj
           split at hj
           ·rw [List.getElem?_drop] at hj
            rw [cell_of_row _ _ _ _ _ _ b2];simpa using hj
           ·cases hj
          have hrun:=ziz hg hn (by rw [List.length_take,List.length_drop];omega) hcell hgn
          refine ⟨if g then .agg ((vs.drop o).take n).toArray else ((vs.drop o).take n).getD 0 undef,?_,?_⟩
          ·simp only [zy8,hx,asAddr,Sem.run_bind,Sem.run_pure,Result.andThen_ok];exact hrun
          ·cases g with
           | true =>
             simp only [if_true,Option.some.injEq] at hp ⊢
             subst hp
             simp only [Rd];exact ⟨_,rfl,(b3.drop o).take n,(b4.drop o).take n⟩
           | false =>
             simp only [Bool.false_eq_true,if_false] at hp ⊢
             have hn1:n=1:=hgn.resolve_left (by simp)
             obtain ⟨v,q1,q2⟩:=ztn (b3.drop o) hn1 (p:=p) (by rw [List.getElem?_drop,Nat.add_zero];exact hp)
             rw [q1];exact q2
         ·cases hp
        ·cases hp
       ·cases hp
      ·cases hc
   obtain ⟨u,q1,q2⟩:=one
   refine ⟨u::us,?_,by simp only [Rds];exact ⟨u,us,rfl,q2,k2⟩⟩
   rw [List.mapM_cons]
   simp only [Sem.run_bind,q1,Result.andThen_ok,k1]
   rfl
theorem ykl {vs:List PV} {us:List Value} (h:Rds w Fr β vs us):Rd w Fr β (zd7 vs) (if h:us.toArray.size=1 then us.toArray[0] else .tuple us.toArray):=by
 match vs,us,h with
 | [],us,h=>simp only [Rds] at h;subst h;simp [zd7,Rd,Rds]
 | [p],us,h =>
   simp only [Rds] at h
   obtain ⟨v,r,rfl,h1,rfl⟩:=h
   simpa [zd7] using h1
 | p::q::r,us,h =>
   have hl:=h.length
   have hne:¬ us.toArray.size=1:=by simp [hl]
   rw [dif_neg hne]
   simp only [zd7,Rd]
   exact ⟨us,rfl,h⟩
theorem z3s {nb:Nat}:∀ (vs:List PV),lows nb vs=true→(zd7 vs).low nb=true
 | [],_=>rfl
 | [v],h=>by simpa [lows,zd7] using h
 | v::u::r,h=>h
theorem Rel.noFrame {bx:zao} {oc:List Loc} (R:Rel P T base M w0 F0 nt (znp bx oc) a w Fr β) (h:∀ L∈oc,zah L=true):Rel P [] base M w0 F0 0 (znp bx oc) act0 w Fr β:=by
 have hv:∀ L∈oc,zay act0 w β L=zay a w β L:=fun L hL=>(zb1 (h L hL)).symm
 refine ⟨fun i=>by simp [znp,look,Rd],rfl,zik,R.bx,R.nd,fun L hL=>?_,fun L hL L' hL' hne v v' g k1 k2=>?_,fun L hL v g k1=>?_,(fun q hq=>by cases hq),fun g hg=>R.may g (hg.imp id ?_),R.old,R.ge,R.os,R.tape,R.output⟩
 ·rw [hv L hL];exact R.own L hL
 ·rw [hv L hL] at k1;rw [hv L' hL'] at k2
  exact R.sep L hL L' hL' hne v v' g k1 k2
 ·rw [hv L hL] at k1;exact R.out L hL v g k1
 ·rintro ⟨L,hL,v,k1,k2⟩
  exact ⟨L,hL,v,by rw [← hv L hL];exact k1,k2⟩
theorem ztu {bx bx':zao} {oc oc':List Loc} {vs2:List PV} {v0:Value} {os:Bool} (hbl:bx.length=β.length) (R':Rel P [] w.heap.size (zel w β oc) w Fr nt st a' w' Fr' β') (hl':Le w Fr β w' Fr' β') (hrdv:Rd w' Fr' β' (zd7 vs2) v0)
 (hown0:os=true→∃ s,Loc.slot s∈st.ow∧a'.tmps.getD s undef=v0∧look st.sl s=zd7 vs2) (hbx:trim bx.length vs2 st.bx=bx') (hoc:zbq bx'.length st.ow=oc'):∃ β'',Post P w Fr β oc vs2 os bx' oc' v0 w' Fr' β'':=by
 have hocm:∀ L,L∈oc'→L∈st.ow∧zah L=true∧∀ b j,L=.cell b j→b<bx'.length:=fun L hL=>by
  rw [← hoc] at hL
  unfold zbq at hL
  obtain ⟨h1,h2⟩:=List.mem_filter.1 hL
  cases L with
  | slot i=>cases h2
  | cell b j=>exact ⟨h1,rfl,fun b' j' e=>by cases e;simpa using h2⟩
 have hown:∀ β'':List Nat,(∀ g∈β'',g∈β')→(∀ L∈oc',∀ u,zay act0 w' β'' L=some u→zay a' w' β' L=some u)→os=true→OwnV P w' Fr' (zd7 vs2) v0∧∀ g,v0.ownBlock=some g→(w.heap.size≤g∨zel w β oc g)∧g ∉ β''∧∀ L∈oc',∀ u,zay act0 w' β'' L=some u→u.ownBlock≠some g:=fun β'' hsub hval ho=>by
  obtain ⟨s,hin,hus,hlk⟩:=hown0 ho
  obtain ⟨u',p,k1,k2,k3⟩:=R'.own _ hin
  simp only [zay,Option.some.injEq] at k1
  simp only [pvAt,Option.some.injEq] at k2
  rw [hus] at k1
  rw [hlk] at k2
  subst k1;subst k2
  have hva:zay a' w' β' (.slot s)=some v0:=by simp only [zay,hus]
  refine ⟨k3,fun g hg=>⟨R'.may g (.inr ⟨_,hin,v0,hva,hg⟩),fun hm=>R'.out _ hin v0 g hva hg (hsub g hm),fun L hL x hx hxg=>?_⟩⟩
  exact R'.sep _ hin L (hocm L hL).1 (fun e=>by have:=(hocm L hL).2.1;rw [← e] at this;cases this) v0 x g hva (hval L hL x hx) hg hxg
 by_cases h1:bx'=st.bx
 ·have Rc:Rel P [] w.heap.size (zel w β oc) w Fr nt (znp bx' oc') a' w' Fr' β':=R'.cut0 (fun i=>.inl rfl) h1 (fun L hL=>⟨(hocm L hL).1,fun i e=>by have:=(hocm L hL).2.1;rw [e] at this;cases this⟩) rfl
  exact ⟨β',⟨hrdv,Rc.noFrame (fun L hL=>(hocm L hL).2.1),hl',fun L hL=>(hocm L hL).2.1,hown β' (fun _ h=>h) fun L hL u hu=>by rw [zb1 (hocm L hL).2.1];exact hu⟩⟩
 ·have h2:lows bx.length vs2=true∧(st.bx.take bx.length).all (fun q=>lows bx.length q.2)=true∧bx'=st.bx.take bx.length:=by
   rw [← hbx] at h1 ⊢
   unfold trim at h1 ⊢
   split at h1
   ·exact absurd rfl h1
   ·rename_i hne
    split at h1
    ·rename_i hc
     rw [if_neg hne,if_pos hc]
     simp only [Bool.and_eq_true] at hc
     exact ⟨hc.1,hc.2,rfl⟩
    ·exact absurd rfl h1
  obtain ⟨k1,k2,k3⟩:=h2
  have Rc:Rel P [] w.heap.size (zel w β oc) w Fr nt (znp bx' oc') a' w' Fr' (β'.take bx.length):=R'.cut (nb:=bx.length) (fun i=>.inl rfl) k3 (fun cs hcs=>List.all_eq_true.1 k2 cs hcs) (fun L hL=>⟨(hocm L hL).1,(fun i e=>by have:=(hocm L hL).2.1;rw [e] at this;cases this),fun b j e=>by
   have:=(hocm L hL).2.2 b j e
   rw [k3,List.length_take] at this;omega⟩) rfl
  refine ⟨β'.take bx.length,⟨zy6 _ _ (z3s vs2 k1) hrdv,Rc.noFrame (fun L hL=>(hocm L hL).2.1),⟨hl'.size,hl'.fr,hl'.cell,fun i g hg=>?_,hl'.lp⟩,fun L hL=>(hocm L hL).2.1,hown _ (fun g hg=>List.mem_of_mem_take hg) fun L hL u hu=>?_⟩⟩
  ·have hlt:=(qg hg).1
   rw [List.getElem?_take_of_lt (by omega)];exact hl'.box i g hg
  ·rw [zb1 (hocm L hL).2.1]
   cases L with
   | slot i=>exact hu
   | cell b j =>
     simp only [zay] at hu ⊢
     have:=(hocm _ hL).2.2 b j rfl
     rw [k3,List.length_take] at this
     rwa [List.getElem?_take_of_lt (by omega)] at hu
theorem zim {S:S0} {fn:Func} {Rp:Ending→World→Prop} {u:FrameMode} (hu:u≠.run):∀ (Ds:List Nat) (a:Act) (w:World),a.defers=Ds.map mark++S.T→Rl P S st a w→(∀ a' w',Rl P S st a' w'→a'.tmps=a.tmps→a'.defers=S.T→LeavesInM Fence.wide 0 P fn a.tmps Rp S.T u w') →
 LeavesInM Fence.wide 0 P fn a.tmps Rp (Ds.map mark++S.T) u w
 | [],a,w,ha,hr,h=>h a w hr rfl ha
 | D::Ds,a,w,ha,hr,h=>by
   obtain ⟨Fr,β,R,hl⟩:=hr
   obtain ⟨k1,R',hl'⟩:=R.takeMark ha
   rw [List.map_cons,List.cons_append]
   unfold LeavesInM
   refine ⟨hu,.inl ⟨D,_,rfl,run_takeDeferred k1,?_⟩⟩
   exact zim hu Ds { a with defers:=Ds.map mark++S.T } _ rfl ⟨Fr,β,R',hl.trans hl'⟩ fun a' w' h1 h2 h3=>h a' w' h1 h2 h3
theorem zi4 {S:S0} {fn:Func} {Rp:Ending→World→Prop} (hT:S.T=[]) (ds:List Deferred) (a:Act) (w:World) (ha:a.defers=ds) (hr:Rl P S st a w) (h:∀ a' w',Rl P S st a' w'→a'.tmps=a.tmps→∃ v,(results fn a'.tmps).run P w'=.ok v w'∧Rp (.returned v) w') :
 LeavesInM Fence.wide 0 P fn a.tmps Rp ds .returning w:=by
 have hr0:=hr
 obtain ⟨Fr,β,R,hl⟩:=hr0
 obtain ⟨Ds,d1,d2,d3⟩:=R.df
 rw [← ha,d2]
 refine zim (by simp) Ds a w d2 hr fun a' w' h1 h2 h3=>?_
 rw [hT]
 unfold LeavesInM LeavesIn
 obtain ⟨v,q1,q2⟩:=h a' w' h1 h2
 exact ⟨v,by rw [← h2];exact q1,q2⟩
theorem zy9 {w:World} {Fr:Nat→Nat} {β:List Nat}:∀ (ps:List Nat) (az:List PV) (us:List Value) (sl:List (Nat × PV)) (tmps:Array Value),(∀ p∈ps,p<tmps.size)→Rds w Fr β az us→(∀ i,Rd w Fr β (look sl i) (tmps.getD i undef)) →
 ((ps.zip us).foldl (fun (t:Array Value) (q:Nat × Value)=>t.setIfInBounds q.1 q.2) tmps).size=tmps.size∧∀ i,Rd w Fr β (look ((ps.zip az).foldl (fun l p=>p::l) sl) i) (((ps.zip us).foldl (fun (t:Array Value) (q:Nat × Value)=>t.setIfInBounds q.1 q.2) tmps).getD i undef)
 | [],az,us,sl,tmps,_,_,h=>⟨rfl,h⟩
 | p::ps,[],us,sl,tmps,_,hr,h=>by simp only [Rds] at hr;subst hr;exact ⟨rfl,h⟩
 | p::ps,a::az,us,sl,tmps,hp,hr,h=>by
   simp only [Rds] at hr
   obtain ⟨u,us,rfl,h1,h2⟩:=hr
   simp only [List.zip_cons_cons,List.foldl_cons]
   have hpt:=hp p (by simp)
   obtain ⟨k1,k2⟩:=zy9 ps az us ((p,a)::sl) (tmps.setIfInBounds p u) (fun q hq=>by simp;exact hp q (by simp [hq])) h2 fun i=>by
    rw [za2,Array.getD_eq_getD_getElem?,Array.getElem?_setIfInBounds]
    by_cases e:p=i
    ·subst e;simp [hpt,h1]
    ·simp only [e,if_false]
     rw [← Array.getD_eq_getD_getElem?];exact h i
   exact ⟨by rw [k1];simp,k2⟩
theorem z3t:∀ (c:Code) (k:Nat) {g:Operand} {ps:Array Tmp} {az b:Code},(zap c)[k]? =some (g,ps,az,b)→∀ (j:Nat) (q:Operand × Array Tmp × Code × Code),(zap az++zap b)[j]? =some q→(zap c)[k+1+j]? =some q:=by
 intro c
 induction c with
 | seq a b iha ihb =>
   intro k g ps az bb h j q hj
   simp only [zap] at h ⊢
   by_cases hk:k<(zap a).length
   ·rw [List.getElem?_append_left hk] at h
    have:=iha k h j q hj
    rw [List.getElem?_append_left (qg this).1];exact this
   ·rw [List.getElem?_append_right (by omega)] at h
    rw [List.getElem?_append_right (by omega)]
    have:=ihb _ h j q hj
    rwa [show k+1+j - (zap a).length=k - (zap a).length+1+j by omega]
 | cond x a b iha ihb =>
   intro k g ps az bb h j q hj
   simp only [zap] at h ⊢
   by_cases hk:k<(zap a).length
   ·rw [List.getElem?_append_left hk] at h
    have:=iha k h j q hj
    rw [List.getElem?_append_left (qg this).1];exact this
   ·rw [List.getElem?_append_right (by omega)] at h
    rw [List.getElem?_append_right (by omega)]
    have:=ihb _ h j q hj
    rwa [show k+1+j - (zap a).length=k - (zap a).length+1+j by omega]
 | block id b ih=>intro k g ps az bb h;exact ih k h
 | loop b ih=>intro k g ps az bb h;exact ih k h
 | scope b ih=>intro k g ps az bb h;exact ih k h
 | rangeFunc g' ps' az' b' iha ihb =>
   intro k g ps az bb h j q hj
   simp only [zap] at h ⊢
   cases k with
   | zero =>
     simp only [List.getElem?_cons_zero,Option.some.injEq,Prod.mk.injEq] at h
     obtain ⟨rfl,rfl,rfl,rfl⟩:=h
     rw [show 0+1+j=j+1 by omega,List.getElem?_cons_succ];exact hj
   | succ k =>
     rw [List.getElem?_cons_succ] at h
     rw [show k+1+1+j=(k+1+j)+1 by omega,List.getElem?_cons_succ]
     by_cases hk:k<(zap az').length
     ·rw [List.getElem?_append_left hk] at h
      have:=iha k h j q hj
      rw [List.getElem?_append_left (qg this).1];exact this
     ·rw [List.getElem?_append_right (by omega)] at h
      rw [List.getElem?_append_right (by omega)]
      have:=ihb _ h j q hj
      rwa [show k+1+j - (zap az').length=k - (zap az').length+1+j by omega]
 | _=>intro k g ps az bb h;simp [zap] at h
theorem z9i (hm:P.follows .mixedOrders=true) {code:FuncId→Option CFun} (hcode:∀ f c,code f=some c→∃ lv,zp4 P lv f=some c) {n:Nat} (hcf:zbv P Γ cf) {args:List PV} {bx bx':zao} {oc oc':List Loc} {vs':List PV} {os:Bool} (h:zpo cf code n args bx oc=some (vs',os,bx',oc'))
 {w:World} {Fr:Nat→Nat} {β:List Nat} {vs:List Value} (hp:Pre P Γ w Fr β args vs bx oc):Enters P yldF vs w fun e w'=>∃ v Fr' β',e=.returned v∧Post P w Fr β oc vs' os bx' oc' v w' Fr' β':=by
 unfold zpo at h
 split at h
 case h_2=>cases h
 rename_i b az
 split at h
 case h_2=>cases h
 rename_i e0 f k live snap hbx
 obtain ⟨c,hc,hA⟩:=qb h
 clear h
 obtain ⟨q,hq,hB⟩:=qb hA
 clear hA
 split at hB
 case isFalse=>cases hB
 rename_i hlen
 obtain ⟨⟨o1,s1⟩,hev,h⟩:=qb hB
 clear hB
 dsimp only at h
 have hargs:=hp.args
 simp only [Rds] at hargs
 obtain ⟨v0,us,rfl,hy,hus⟩:=hargs
 simp only [Rd] at hy
 obtain ⟨g,hg,rfl⟩:=hy
 obtain ⟨g0,b1,hF,hat⟩:=hp.rel.bx.2 b _ hbx
 rw [hg] at b1;cases b1
 have hrec:LpR P w Fr β f k .ready live snap g:=by
  rcases hat with ⟨vs,e,_,h2,_⟩ | ⟨_,_,_,_,_,he,h1⟩
  ·simp only [Rds] at h2;obtain ⟨_,_,_,h2,_⟩:=h2;simp only [Rd] at h2
  ·cases he;exact h1
 obtain ⟨r,q1,⟨fn,hfn,htm⟩,⟨x,hra⟩,⟨hst,hpe⟩,hsn⟩:=hrec
 have hgl:=(Array.getElem?_eq_some_iff.1 q1).1
 obtain ⟨lv,hco⟩:=hcode f c hc
 unfold zp4 at hco
 rw [hfn] at hco
 dsimp only at hco
 split at hco
 case h_2=>cases hco
 rename_i body hbody
 split at hco
 case isFalse=>cases hco
 obtain ⟨⟨cc,lv'⟩,hcc,hco⟩:=qb hco
 obtain ⟨rg,hrg,hco⟩:=qb hco
 obtain ⟨rs,hrs,rfl⟩:=qm hco
 obtain ⟨qq,lvk,k1,k2⟩:=zsf hrg k q hq
 rw [Nat.zero_add] at k2
 have hra':rangeAt P f k=some qq:=by unfold rangeAt;rw [hfn];simp only [Option.bind_some,hbody];exact k1
 rw [hra] at hra'
 cases hra'
 unfold ye5 at k2
 split at k2
 case isFalse=>cases k2
 rename_i hps
 obtain ⟨⟨ac,lv2⟩,hac,k2⟩:=qb k2
 obtain ⟨⟨bc,lv3⟩,hbc,k2⟩:=qm k2
 cases k2
 obtain ⟨ps,e1⟩:∃ ps,ps=r.params:=⟨_,rfl⟩
 dsimp only at hlen hev hps hac hbc
 rw [← e1] at hlen hev hps
 have hS:Good Γ ⟨w.heap.size,zel w β oc,w,Fr,fn.ntmps,w,Fr,β,[]⟩:=⟨hp.g,fun g hg=>⟨Γ.lt w hp.g g hg,hp.dis g hg⟩⟩
 have hpall:∀ p∈ps.toList,p<fn.ntmps:=fun p hp=>by simpa using List.all_eq_true.1 hps p hp
 have hfold:((r.params.zip us.toArray).foldl (fun tmps (t,a)=>tmps.setIfInBounds t a) r.tmps)=(ps.toList.zip us).foldl (fun (t:Array Value) (q:Nat × Value)=>t.setIfInBounds q.1 q.2) r.tmps:=by
  rw [← e1,← Array.foldl_toList,Array.toList_zip]
 obtain ⟨hsz,hsl⟩:=zy9 ps.toList az us (live.zip snap) r.tmps (by rw [htm];exact hpall) hus hsn
 obtain ⟨a0,ha0⟩:∃ a0:Act,a0={ tmps:=((ps.toList.zip us).foldl (fun (t:Array Value) (q:Nat × Value)=>t.setIfInBounds q.1 q.2) r.tmps),defers:=[] }:=⟨_,rfl⟩
 have hcl:∀ L∈oc,∀ w β,zay a0 w β L=zay act0 w β L:=fun L hL w β=>zb1 (hp.cells L hL)
 have R0:Rel P [] w.heap.size (zel w β oc) w Fr fn.ntmps { sl:=(ps.toList.zip az).foldl (fun l p=>p::l) (live.zip snap),ow:=oc,al:=[],bx:=bx } a0 w Fr β:=by
  refine ⟨fun i=>by subst ha0;exact hsl i,by subst ha0;exact hsz.trans htm,by subst ha0;exact zik,hp.rel.bx,hp.rel.nd,fun L hL=>?_,fun L hL L' hL' hne v v' g hv hv'=>?_,fun L hL v g hv=>?_,(fun q hq=>by cases hq),fun g hg=>.inr ?_,hp.rel.old,Nat.le_refl _,rfl,rfl,rfl⟩
  ·obtain ⟨v,p,k1,k2,k3⟩:=hp.rel.own L hL
   exact ⟨v,p,by rw [hcl L hL];exact k1,by rw [zmn (hp.cells L hL) (oc:=oc)];exact k2,k3⟩
  ·rw [hcl L hL] at hv;rw [hcl L' hL'] at hv'
   exact hp.rel.sep L hL L' hL' hne v v' g hv hv'
  ·rw [hcl L hL] at hv;exact hp.rel.out L hL v g hv
  ·refine hg.imp id ?_
   rintro ⟨L,hL,v,hv,hg⟩
   exact ⟨L,hL,v,by rw [← hcl L hL];exact hv,hg⟩
 unfold Enters
 rw [if_pos rfl]
 refine ⟨g,us,r,rfl,q1,?_,?_⟩
 ·rw [← e1,hus.length,hlen];simp
 rw [hfold]
 refine roundIn_of_wpIn trivial ?_
 rw [← ha0]
 have hrat:∀ j qq,(zap r.assign++zap r.body)[j]? =some qq→rangeAt P f (k+1+j)=some qq:=fun j qq hj=>by
  unfold rangeAt
  rw [hfn]
  simp only [Option.bind_some,hbody]
  exact z3t _ _ k1 j qq hj
 refine ze8 (r:=some g) hm hcf hS (f:=f) ⟨fn,hfn,rfl⟩ (fun l e=>by cases e;exact ⟨r,q1⟩) r.assign (k+1) lvk ac lv2 hac (fun j qq hj=>hrat j qq (by rw [List.getElem?_append_left (qg hj).1];exact hj)) _ s1 o1 a0 w _ hev rfl ⟨Fr,β,R0,Le.refl _ _ _⟩ fun a1 w1 hr1=>?_
 obtain ⟨Fr1,β1,Rx,hl1⟩:=hr1
 have hb1:β1[b]? =some g:=hl1.box _ _ hg
 dsimp only at h
 split at h
 case h_2=>cases h
 rename_i e1' f1 k1' live1 snap1 hbx1
 obtain ⟨⟨o,st⟩,hev2,h⟩:=qb h
 dsimp only at h hev2
 obtain ⟨g0,b1,hF1,hat1⟩:=Rx.bx.2 b _ hbx1
 rw [hb1] at b1;cases b1
 have hrec1:LpR P w1 Fr1 β1 f1 k1' .ready live1 snap1 g:=by
  rcases hat1 with ⟨vs,e,_,h2,_⟩ | ⟨_,_,_,_,_,he,h1⟩
  ·simp only [Rds] at h2;obtain ⟨_,_,_,h2,_⟩:=h2;simp only [Rd] at h2
  ·cases he;exact h1
 obtain ⟨r1,u1,u2,u3,⟨u4,u5⟩,u6⟩:=hrec1
 obtain ⟨R1,hl2⟩:=Rx.setLp (r':={ r1 with state:=.busy }) (f':=f1) (k':=k1') (s':=.busy) (live':=live1) (snap':=snap1) hbx1 hb1 fun hl1=>⟨_,World.putObj_heap_same (Array.getElem?_eq_some_iff.1 u1).1,u2,u3,rfl,fun i=>(u6 i).mono hl1⟩
 refine ⟨_,run_beginRound u1 u4,?_⟩
 have hal1:=zlh _ _ _ _ hev rfl
 refine ze8 (r:=some g) hm hcf hS (f:=f) ⟨fn,hfn,rfl⟩ (fun l e=>by cases e;exact ⟨r,q1⟩) r.body (k+1+(zap r.assign).length) lv2 bc lv3 hbc (fun j qq hj=>by
  have:=hrat ((zap r.assign).length+j) qq (by rw [List.getElem?_append_right (by omega)];simpa using hj)
  rwa [← Nat.add_assoc] at this) _ st o a1 _ _ hev2 hal1 ⟨Fr1,β1,R1,hl1.trans hl2⟩ fun a' w' hr'=>?_
 obtain ⟨Fr',β',R',hl'⟩:=hr'
 have hb':β'[b]? =some g:=hl'.box _ _ hg
 split at h
 case h_2=>cases h
 rename_i e0' f' k' live' snap' hbx'
 obtain ⟨g0,b1,hF',hat'⟩:=R'.bx.2 b _ hbx'
 rw [hb'] at b1;cases b1
 have hrec':LpR P w' Fr' β' f' k' .busy live' snap' g:=by
  rcases hat' with ⟨vs,e,_,h2,_⟩ | ⟨_,_,_,_,_,he,h1⟩
  ·simp only [Rds] at h2;obtain ⟨_,_,_,h2,_⟩:=h2;simp only [Rd] at h2
  ·cases he;exact h1
 obtain ⟨r',p1,p2,p3,p4,p5⟩:=hrec'
 have hgl':=(Array.getElem?_eq_some_iff.1 p1).1
 have fin:∀ (s:LpS) (jump:Option Code),s.of { r' with state:=if jump.isNone then .ready else .done,pending:=jump }→(trim bx.length [.flat (.bool jump.isNone)] (st.bx.set b (0,[.lp f' k' s live' snap'])))=bx'→vs'=[.flat (.bool jump.isNone)]→os=false→zbq bx'.length st.ow=oc' →
  ∃ v w'',(Instr.endRound g jump).run P w'=.ok v w''∧∃ v0 Fr' β',Ending.returned v=.returned v0∧Post P w Fr β oc vs' os bx' oc' v0 w'' Fr' β':=fun s jump hs h1 h2 h3 h4=>by
  subst h2;subst h3
  obtain ⟨R2,hl2⟩:=R'.setLp (r':={ r' with state:=if jump.isNone then .ready else .done,pending:=jump }) (f':=f') (k':=k') (s':=s) (live':=live') (snap':=snap') hbx' hb' fun hl2=>⟨_,World.putObj_heap_same hgl',p2,p3,hs,fun i=>(p5 i).mono hl2⟩
  refine ⟨_,_,run_endRound jump p1,.bool jump.isNone,Fr',?_⟩
  obtain ⟨β'',hpost⟩:=ztu (v0:=.bool jump.isNone) (vs2:=[.flat (.bool jump.isNone)]) (os:=false) hp.rel.bx.1 R2 (hl'.trans hl2) (by simp [zd7,Rd,zcm]) (fun h=>by cases h) h1 h4
  exact ⟨β'',rfl,hpost⟩
 cases o with
 | normal =>
   cases h
   exact fin .ready none ⟨rfl,rfl⟩ rfl rfl rfl rfl
 | exit i =>
   cases h
   exact fin (.done (.exit i)) (some (.exit i)) ⟨rfl,rfl⟩ rfl rfl rfl rfl
 | ret =>
   cases h
   exact fin (.done .ret) (some .ret) ⟨rfl,rfl⟩ rfl rfl rfl rfl
theorem Rel.bare (R:Rel P T base M w0 F0 nt st a w Fr β):Rel P [] base M w0 F0 nt st { a with defers:=[] } w Fr β:=by
 have hv:∀ L,zay { a with defers:=[] } w β L=zay a w β L:=fun L=>by cases L<;>rfl
 exact ⟨R.sl,R.nt,zik,R.bx,R.nd,fun L hL=>by rw [hv];exact R.own L hL,fun L hL L' hL' hne v v' g=>by rw [hv,hv];exact R.sep L hL L' hL' hne v v' g,fun L hL v g=>by rw [hv];exact R.out L hL v g,fun q hq=>by rw [hv];exact R.al q hq,fun g hg=>R.may g (hg.imp id fun ⟨L,hL,v,k1,k2⟩=>⟨L,hL,v,by rw [← hv];exact k1,k2⟩),R.old,R.ge,R.os,R.tape,R.output⟩
theorem zza {fn:Func} {rs:List (Sum Nat (Nat × Bool × Nat))} (hrs:fn.results.toList.mapM (zp3 P)=some rs) {bx bx':zao} {oc oc':List Loc} {vs':List PV} {os:Bool} (hbl:bx.length=β.length)
 (h:(rs.mapM (resV st)).map (fun vs=>(vs,zmi rs st.ow,trim bx.length vs st.bx,zbq (trim bx.length vs st.bx).length st.ow))=some (vs',os,bx',oc')) (a':Act) (w':World) (hr':Rl P ⟨w.heap.size,zel w β oc,w,Fr,nt,w,Fr,β,T⟩ st a' w') :
 ∃ v,(results fn a'.tmps).run P w'=.ok v w'∧∃ v0 Fr' β',Ending.returned v=.returned v0∧Post P w Fr β oc vs' os bx' oc' v0 w' Fr' β':=by
 obtain ⟨Fr',β',R0',hl'⟩:=hr'
 have R':=R0'.bare
 obtain ⟨a2,ha2⟩:∃ a2:Act,a2={ a' with defers:=[] }:=⟨_,rfl⟩
 have et:a'.tmps=a2.tmps:=by rw [ha2]
 rw [← ha2] at R'
 rw [et]
 clear R0' ha2 et
 obtain ⟨vs2,hvs,h⟩:=qm h
 simp only [Prod.mk.injEq] at h
 obtain ⟨rfl,hos,hbx,hoc⟩:=h
 obtain ⟨us,hrun,hrd⟩:=z3r (rs:=fn.results.toList) (cs:=rs) R' hrs hvs
 obtain ⟨v0,hv0⟩:∃ v0,(if h:us.toArray.size=1 then us.toArray[0] else .tuple us.toArray)=v0:=⟨_,rfl⟩
 have hres:(results fn a2.tmps).run P w'=.ok v0 w':=by
  rw [z07,Array.mapM_eq_mapM_toList]
  simp only [Sem.run_bind,Sem.run_map]
  rw [hrun,← hv0]
  rfl
 have hrdv:Rd w' Fr' β' (zd7 vs2) v0:=by rw [← hv0];exact ykl hrd
 refine ⟨v0,hres,v0,Fr',?_⟩
 have hown0:os=true→∃ s,Loc.slot s∈st.ow∧a2.tmps.getD s undef=v0∧look st.sl s=zd7 vs2:=fun ho=>by
  have hsome:∃ s,rs=[.inl s]∧Loc.slot s∈st.ow:=by
   rw [← hos] at ho
   rcases rs with _ | ⟨r,_ | ⟨r2,rs3⟩⟩
   ·cases ho
   ·cases r with
    | inl s=>exact ⟨s,rfl,by simpa [zmi] using ho⟩
    | inr x=>cases ho
   ·cases r<;>cases ho
  obtain ⟨s,hrse,hin⟩:=hsome
  subst hrse
  simp only [List.mapM_cons,List.mapM_nil,resV] at hvs
  cases hvs
  refine ⟨s,hin,?_,rfl⟩
  have h9:fn.results.toList.mapM (zp3 P)=some [.inl s]:=hrs
  cases hrl:fn.results.toList with
  | nil=>rw [hrl] at h9;simp at h9
  | cons x xs =>
    rw [hrl,List.mapM_cons] at h9
    obtain ⟨c,hc,h9⟩:=qb h9
    obtain ⟨cs',hcs,h9⟩:=qb h9
    cases h9
    have hxt:x=.tmp s:=by
     cases x with
     | tmp t=>simp only [zp3,Option.some.injEq,Sum.inl.injEq] at hc;rw [hc]
     | cell x' ty =>
       simp only [zp3] at hc
       obtain ⟨_,_,hc⟩:=qb hc
       obtain ⟨_,_,hc⟩:=qb hc
       split at hc<;>cases hc
    have hxs:xs=[]:=by
     cases xs with
     | nil=>rfl
     | cons y ys =>
       rw [List.mapM_cons] at hcs
       obtain ⟨c,hc,hcs⟩:=qb hcs
       obtain ⟨cs',hcs',hcs⟩:=qb hcs
       cases hcs
    subst hxt;subst hxs
    rw [hrl] at hrun
    rw [List.mapM_cons] at hrun
    simp only [Sem.run_bind,Sem.run_pure,Result.andThen_ok,List.mapM_nil] at hrun
    cases hrun
    rw [← hv0];simp
 obtain ⟨β'',hpost⟩:=ztu (os:=os) (bx':=bx') (oc':=oc') hbl R' hl' hrdv hown0 hbx (by rw [← hoc,← hbx])
 exact ⟨β'',rfl,hpost⟩
theorem zmr {Γ:Glob} {args:List PV} {vs:List Value} {bx:zao} {oc:List Loc} (hp:Pre P Γ w Fr β args vs bx oc) (hlen:args.length≤nt) :
 Rel P [] w.heap.size (zel w β oc) w Fr nt { sl:=zfi 0 args,ow:=oc,al:=[],bx:=bx } { tmps:=vs.toArray++Array.replicate (nt - vs.toArray.size) undef,defers:=[] } w Fr β:=by
 have hvl:=hp.args.length
 obtain ⟨a0,ha0⟩:∃ a0:Act,a0={ tmps:=vs.toArray++Array.replicate (nt - vs.toArray.size) undef,defers:=[] }:=⟨_,rfl⟩
 have hget:∀ i,a0.tmps.getD i undef=vs.getD i undef:=fun i=>by
  subst ha0
  rw [Array.getD_eq_getD_getElem?,List.getD_eq_getElem?_getD]
  by_cases hi:i<vs.length
  ·rw [Array.getElem?_append_left (by simpa using hi)];simp
  ·rw [Array.getElem?_append_right (by simpa using hi),List.getElem?_eq_none (by omega),Array.getElem?_replicate]
   split<;>rfl
 rw [← ha0]
 ·skip
  have hcl:∀ L∈oc,zay a0 w β L=zay act0 w β L:=fun L hL=>zb1 (hp.cells L hL)
  refine ⟨fun i=>?_,by subst ha0;simp;omega,by subst ha0;exact zik,hp.rel.bx,hp.rel.nd,fun L hL=>?_,fun L hL L' hL' hne v v' g hv hv'=>?_,fun L hL v g hv=>?_,(fun q hq=>by cases hq),fun g hg=>.inr ?_,hp.rel.old,Nat.le_refl _,rfl,rfl,rfl⟩
  ·rw [zvc,if_pos (Nat.zero_le _),Nat.sub_zero,hget]
   by_cases hi:i<args.length
   ·obtain ⟨v,h1,h2⟩:=hp.args.get i _ (qe hi)
    rw [List.getD_eq_getElem?_getD,qe hi,List.getD_eq_getElem?_getD,h1];exact h2
   ·rw [List.getD_eq_getElem?_getD,List.getElem?_eq_none (by omega)];simp [Rd]
  ·obtain ⟨v,p,k1,k2,k3⟩:=hp.rel.own L hL
   exact ⟨v,p,by rw [hcl L hL];exact k1,by rw [zmn (hp.cells L hL) (oc:=oc)];exact k2,k3⟩
  ·rw [hcl L hL] at hv;rw [hcl L' hL'] at hv'
   exact hp.rel.sep L hL L' hL' hne v v' g hv hv'
  ·rw [hcl L hL] at hv;exact hp.rel.out L hL v g hv
  ·refine hg.imp id ?_
   rintro ⟨L,hL,v,hv,hg⟩
   exact ⟨L,hL,v,by rw [← hcl L hL];exact hv,hg⟩
theorem ykm (hm:P.follows .mixedOrders=true) (hyn:P.funcs[yldF]? =none) {code:FuncId→Option CFun} {lib:Callee} (hcode:∀ f c,code f=some c→∃ lv,zp4 P lv f=some c) (hlib:zbv P Γ lib):∀ n,zbv P Γ (evF code lib n):=by
 intro n
 induction n with
 | zero=>intro f args bx oc vs' os bx' oc' h;simp [evF] at h
 | succ n ih =>
   intro f args bx oc vs' os bx' oc' h
   simp only [evF] at h
   cases hcf:code f with
   | none =>
     rw [hcf] at h
     dsimp only at h
     split at h
     ·rename_i hf
      subst hf
      exact fun w Fr β vs hp=>z9i hm hcode ih h hp
     ·exact hlib f args bx oc vs' os bx' oc' h
   | some c =>
     rw [hcf] at h
     dsimp only at h
     split at h
     case isFalse=>cases h
     rename_i hlen
     obtain ⟨⟨o,st⟩,hev,h⟩:=qb h
     obtain ⟨lv,hco⟩:=hcode f c hcf
     unfold zp4 at hco
     split at hco
     case h_2=>cases hco
     rename_i fn hfn
     split at hco
     case h_2=>cases hco
     rename_i body hbody
     split at hco
     case isFalse=>cases hco
     rename_i hname
     obtain ⟨⟨cc,lv'⟩,hcc,hco⟩:=qb hco
     obtain ⟨rg,hrg,hco⟩:=qb hco
     obtain ⟨rs,hrs,rfl⟩:=qm hco
     dsimp only at h hev hlen
     intro w Fr β vs hp
     refine enters_of (by unfold zgq;rw [hfn];simp only [hname,hbody,Option.isSome_some,Bool.and_self]) (fun e=>by rw [e,hyn] at hfn;cases hfn) ?_
     have hvl:=hp.args.length
     have hS:Good Γ ⟨w.heap.size,zel w β oc,w,Fr,fn.ntmps,w,Fr,β,[]⟩:=⟨hp.g,fun g hg=>⟨Γ.lt w hp.g g hg,hp.dis g hg⟩⟩
     have R0:=zmr (nt:=fn.ntmps) hp hlen
     refine callsIn_wide.1 (callsIn_of_wp_marks (n:=0) hfn hbody trivial ?_)
     refine ze8 (r:=none) hm ih hS (f:=f) ⟨fn,hfn,rfl⟩ (fun l e=>by cases e) body 0 lv.main cc lv' hcc ?_ _ st o _ w _ hev rfl ⟨Fr,β,R0,Le.refl _ _ _⟩ fun a' w' hr'=>?_
     ·intro j q hj
      unfold rangeAt
      rw [hfn]
      simp only [Option.bind_some,hbody,Nat.zero_add]
      exact hj
     cases o with
     | exit id=>cases h
     | normal=>exact zi4 rfl _ a' w' rfl hr' fun a2 w2 hr2 _=>zza hrs hp.rel.bx.1 h a2 w2 hr2
     | ret=>exact zi4 rfl _ a' w' rfl hr' fun a2 w2 hr2 _=>zza hrs hp.rel.bx.1 h a2 w2 hr2
end
end Nun
namespace Nun
open Go
def Sub (c c':Callee):Prop:=∀ f a b o r,c f a b o=some r→c' f a b o=some r
variable {c c':Callee} {st st':St}
theorem zhm (h:Sub c c') {d:Option Nat} {f:FuncId} {az:List PV} (hs:callBx c st d f az=some st'):callBx c' st d f az=some st':=by
 unfold callBx at hs ⊢
 obtain ⟨r,h1,h2⟩:=qm hs
 rw [h _ _ _ _ _ h1,Option.map_some,h2]
theorem zp6 (h:Sub c c') {d:Option Nat} {f:FuncId} {az:List PV} (hs:callSt c st d f az=some st'):callSt c' st d f az=some st':=by
 unfold callSt at hs ⊢
 split at hs
 ·rename_i hn
  rw [if_pos hn]
  obtain ⟨r,h1,h2⟩:=qb hs
  rw [h _ _ _ _ _ h1,Option.bind_some]
  obtain ⟨vs,os,bx,oc⟩:=r
  dsimp only at h2 ⊢
  split at h2
  ·rename_i hv;rw [if_pos hv];exact h2
  ·rename_i hv;rw [if_neg hv];exact zhm h h2
 ·rename_i hn
  rw [if_neg hn];exact zhm h hs
theorem zli (h:Sub c c') {f:FuncId} {az:List PV} (hs:zcs c f az=true):zcs c' f az=true:=by
 unfold zcs at hs ⊢
 simp only [Bool.and_eq_true] at hs ⊢
 refine ⟨hs.1,?_⟩
 obtain ⟨_,hs⟩:=hs
 split at hs
 ·rename_i vs r e;rw [h _ _ _ _ _ e];exact hs
 ·cases hs
theorem zp7 (h:Sub c c') {sl:List (Nat × PV)} {op:COp} (hs:za7 c sl op=true):za7 c' sl op=true:=by
 cases op
 case call f az=>exact zli h hs
 case callv g az =>
  simp only [za7] at hs ⊢
  split at hs
  ·simp only [Bool.and_eq_true] at hs ⊢;exact ⟨hs.1,zli h hs.2⟩
  ·cases hs
 all_goals exact hs
theorem zvd (h:Sub c c') {f k:Nat} {live:List Nat} {g:PV} {r:Out × St} (hs:zgp c f k live g st=some r):zgp c' f k live g st=some r:=by
 unfold zgp at hs ⊢
 split at hs
 case h_2=>cases hs
 split at hs
 ·cases hs
 rename_i hne
 rw [if_neg hne]
 obtain ⟨s2,h1,h2⟩:=qb hs
 rw [zhm h h1];exact h2
theorem zzb {d:Option Nat} {x:X}:zaa c st d (.asg x)=zaa c' st d (.asg x):=by
 cases x with
 | t s=>rfl
 | c v=>rfl
theorem zp8 {d:Option Nat} {b:Bool} {n:Nat} {x y:X}:zaa c st d (.append b n x y)=zaa c' st d (.append b n x y):=by
 cases x<;>rfl
theorem zoi {d:Option Nat} {x y:X}:zaa c st d (.appendS x y)=zaa c' st d (.appendS x y):=by
 cases x<;>rfl
theorem zl0 (h:Sub c c') {d:Option Nat} {op:COp} (hs:zaa c st d op=some st'):zaa c' st d op=some st':=by
 cases op
 case call f az=>simp only [zaa] at hs ⊢;exact zp6 h hs
 case callv g az =>
  simp only [zaa] at hs ⊢
  split at hs
  ·split at hs
   ·cases hs
   ·rename_i hne;rw [if_neg hne];exact zp6 h hs
  ·exact zhm h hs
  ·cases hs
 case asg x=>rw [← zzb (c:=c)];exact hs
 case append b n x y=>rw [← zp8 (c:=c)];exact hs
 case appendS x y=>rw [← zoi (c:=c)];exact hs
 all_goals exact hs
theorem ze9 (h:Sub c c') {o:COper} (hs:stepG c st o=some st'):stepG c' st o=some st':=by
 unfold stepG at hs ⊢
 obtain ⟨b,hb,h2⟩:=qb hs
 rw [hb]
 cases b
 ·exact h2
 ·exact zl0 h h2
theorem zsg (h:Sub c c') {o:COper} (hs:zer c st o=some st'):zer c' st o=some st':=by
 unfold zer at hs ⊢
 obtain ⟨b,hb,h2⟩:=qb hs
 rw [hb]
 cases b
 ·exact h2
 ·simp only [if_true,Option.bind_some] at h2 ⊢
  split at h2
  ·rename_i hp;rw [if_pos (zp7 h hp)];exact zl0 h h2
  ·cases h2
theorem zkx (h:Sub c c'):∀ {l:List COper} {st st':St},zc0 c l st=some st'→zc0 c' l st=some st'
 | [],_,_,hs=>hs
 | o::l,st,st',hs=>by
   simp only [zc0] at hs ⊢
   obtain ⟨s,h1,h2⟩:=qb hs
   rw [ze9 h h1];exact zkx h h2
theorem zky (h:Sub c c'):∀ {l:List COper} {st st':St},zhh c l st=some st'→zhh c' l st=some st'
 | [],_,_,hs=>hs
 | o::l,st,st',hs=>by
   simp only [zhh] at hs ⊢
   obtain ⟨s,h1,h2⟩:=qb hs
   rw [zsg h h1];exact zky h h2
theorem zl1 {b b':St→Option (Out × St)} (h:∀ s r,b s=some r→b' s=some r) {lv:List Nat} {nb:Nat}:∀ {n m:Nat} {st:St} {r:Out × St},n≤m→zb3 b lv nb n st=some r→zb3 b' lv nb m st=some r
 | 0,_,_,_,_,hs=>by cases hs
 | n+1,0,_,_,hm,_=>by omega
 | n+1,m+1,st,r,hm,hs=>by
   simp only [zb3] at hs ⊢
   obtain ⟨⟨o,s⟩,h1,h2⟩:=qb hs
   rw [h _ _ h1]
   cases o with
   | normal=>exact zl1 h (by omega) h2
   | exit i=>exact h2
   | ret=>exact h2
theorem zve {α:Type} (a:Option α):same a a=a:=if_pos rfl
theorem zhz (h:Sub c c') {live:List Nat}:∀ {t:BT} {st r:St},evT c live t st=some r→evT c' live t st=some r
 | .done,_,_,hs=>hs
 | .one o t,st,r,hs=>by
   simp only [evT] at hs ⊢
   obtain ⟨s,h1,h2⟩:=qb hs
   rw [ze9 h h1];exact zhz h h2
 | .two o t q,st,r,hs=>by
   simp only [evT] at hs ⊢
   obtain ⟨h1,h2⟩:=zmq hs
   obtain ⟨s,h3,h4⟩:=qb h1
   rw [ze9 h h3,Option.bind_some,zhz h h4,zhz h h2,zve]
theorem zsh (h:Sub c c') {st st':St} {o:COper} (hs:zdn c st o=some st'):zdn c' st o=some st':=by
 unfold zdn at hs ⊢
 split at hs
 ·obtain ⟨s,h1,h2⟩:=qb hs
  rw [ze9 h h1];exact h2
 ·exact ze9 h hs
theorem zo4 (h:Sub c c'):∀ {l:List COper} {st st':St},evQ c l st=some st'→evQ c' l st=some st'
 | [],_,_,hs=>hs
 | o::l,st,st',hs=>by
   simp only [evQ] at hs ⊢
   obtain ⟨s,h1,h2⟩:=qb hs
   rw [zsh h h1];exact zo4 h h2
theorem zde (h:Sub c c') {n m:Nat} (hm:n≤m):∀ {k:CCode} {st:St} {r:Out × St},evC c n k st=some r→evC c' m k st=some r
 | .skip,_,_,hs=>hs
 | .reg l p t,st,r,hs=>by
   simp only [evC] at hs ⊢
   obtain ⟨s,h1,h2⟩:=qm hs
   obtain ⟨s1,h3,h4⟩:=qb h1
   rw [zky h h3,Option.bind_some,zkx h h4,Option.map_some,h2]
 | .regT l p t,st,r,hs=>by
   simp only [evC] at hs ⊢
   obtain ⟨s,h1,h2⟩:=qm hs
   obtain ⟨s1,h3,h4⟩:=qb h1
   rw [zo4 h h3,Option.bind_some,zhz h h4,Option.map_some,h2]
 | .seq a b,st,r,hs=>by
   simp only [evC] at hs ⊢
   obtain ⟨⟨o,s⟩,h1,h2⟩:=qb hs
   rw [zde h hm h1]
   cases o with
   | normal=>exact zde h hm h2
   | exit i=>exact h2
   | ret=>exact h2
 | .cond x a b,st,r,hs=>by
   simp only [evC] at hs ⊢
   split at hs
   ·rename_i t e
    cases t
    ·exact zde h hm hs
    ·exact zde h hm hs
   ·cases hs
 | .block id b,st,r,hs=>by
   simp only [evC] at hs ⊢
   obtain ⟨s,h1,h2⟩:=qm hs
   rw [zde h hm h1,Option.map_some,h2]
 | .range f k lv g,st,r,hs=>by
   simp only [evC] at hs ⊢
   exact zvd h hs
 | .loop lv b,st,r,hs=>by
   simp only [evC] at hs ⊢
   exact zl1 (fun s r hs=>zde h hm hs) hm hs
 | .exit id lv,_,_,hs=>hs
 | .ret lv,_,_,hs=>hs
noncomputable def evB (cf:Callee) (n:Nat) (c:CFun) (args:List PV) (bx:zao) (oc:List Loc):Option Ans :=
 if args.length≤c.nt then
  (evC cf n c.body { sl:=zfi 0 args,ow:=oc,al:=[],bx }).bind fun (o,st) =>
    match o with
    | .exit _=>none
    | _=>(c.res.mapM (resV st)).map fun vs=>(vs,zmi c.res st.ow,trim bx.length vs st.bx,zbq (trim bx.length vs st.bx).length st.ow)
 else none
theorem z9j (h:Sub c c') {n m:Nat} (hm:n≤m) {k:CFun} {args:List PV} {bx:zao} {oc:List Loc} {r:Ans} (hs:evB c n k args bx oc=some r):evB c' m k args bx oc=some r:=by
 unfold evB at hs ⊢
 split at hs
 case isFalse=>cases hs
 rename_i hl
 rw [if_pos hl]
 obtain ⟨p,h1,h2⟩:=qb hs
 rw [zde h hm h1];exact h2
variable {code:FuncId→Option CFun} {lib:Callee}
theorem zo5 (n:Nat) (f:FuncId) (args:List PV) (bx:zao) (oc:List Loc):evF code lib (n+1) f args bx oc=match code f with | none=>if f=yldF then zpo (evF code lib n) code n args bx oc else lib f args bx oc | some k=>evB (evF code lib n) n k args bx oc:=rfl
theorem z08 (h:Sub c c') {n m:Nat} (hm:n≤m) {args:List PV} {bx:zao} {oc:List Loc} {r:Ans} (hs:zpo c code n args bx oc=some r):zpo c' code m args bx oc=some r:=by
 unfold zpo at hs ⊢
 split at hs
 case h_2=>cases hs
 split at hs
 case h_2=>cases hs
 obtain ⟨k,h1,hs⟩:=qb hs
 obtain ⟨q,h2,hs⟩:=qb hs
 rw [h1,Option.bind_some,h2,Option.bind_some]
 split at hs
 case isFalse=>cases hs
 rename_i hl
 rw [if_pos hl]
 obtain ⟨⟨o1,s1⟩,h3,h4⟩:=qb hs
 rw [zde h hm h3,Option.bind_some]
 dsimp only at h4 ⊢
 split at h4
 case h_2=>cases h4
 obtain ⟨p,h5,h6⟩:=qb h4
 rw [zde h hm h5];exact h6
theorem ztv:∀ n,Sub (evF code lib n) (evF code lib (n+1))
 | 0=>fun f a b o r h=>by cases h
 | n+1=>fun f a b o r h=>by
   rw [zo5] at h ⊢
   cases hc:code f with
   | none =>
     rw [hc] at h
     dsimp only at h ⊢
     split at h
     ·rename_i hf;rw [if_pos hf];exact z08 (ztv n) (Nat.le_succ n) h
     ·rename_i hf;rw [if_neg hf];exact h
   | some k=>rw [hc] at h;exact z9j (ztv n) (Nat.le_succ n) h
theorem zkz {n m:Nat} (hm:n≤m):Sub (evF code lib n) (evF code lib m):=by
 induction m with
 | zero=>have:n=0:=by omega
         subst this;exact fun _ _ _ _ _ h=>h
 | succ m ih =>
   by_cases h:n=m+1
   ·subst h;exact fun _ _ _ _ _ h=>h
   ·exact fun f a b o r hr=>ztv m _ _ _ _ _ (ih (by omega) f a b o r hr)
noncomputable def evW (code:FuncId→Option CFun) (lib:Callee):Callee:=fun f args bx oc =>
 open Classical in if h:∃ n r,evF code lib n f args bx oc=some r then some (h.choose_spec.choose) else none
theorem zp9 {f:FuncId} {a:List PV} {b:zao} {o:List Loc} {r:Ans}:evW code lib f a b o=some r ↔ ∃ n,evF code lib n f a b o=some r:=by
 unfold evW
 constructor
 ·intro h
  split at h
  ·rename_i hx
   cases h
   exact ⟨_,hx.choose_spec.choose_spec⟩
  ·cases h
 ·rintro ⟨n,hn⟩
  have hx:∃ n r,evF code lib n f a b o=some r:=⟨n,r,hn⟩
  rw [dif_pos hx]
  have h1:=hx.choose_spec.choose_spec
  have h2:=zkz (Nat.le_max_left hx.choose n) _ _ _ _ _ h1
  have h3:=zkz (Nat.le_max_right hx.choose n) _ _ _ _ _ hn
  rw [h2] at h3
  exact h3
structure Chain (F:Nat→Callee) (W:Callee):Prop where
 mono:∀ n m,n≤m→Sub (F n) (F m)
 fin:∀ f a b o r,W f a b o=some r→∃ n,F n f a b o=some r
variable {F:Nat→Callee} {W:Callee}
theorem zk0 (h:Chain F W) {d:Option Nat} {f:FuncId} {az:List PV} (hs:callBx W st d f az=some st'):∃ n,callBx (F n) st d f az=some st':=by
 unfold callBx at hs ⊢
 obtain ⟨r,h1,h2⟩:=qm hs
 obtain ⟨n,h3⟩:=h.fin _ _ _ _ _ h1
 exact ⟨n,by rw [h3,Option.map_some,h2]⟩
theorem zsi (h:Chain F W) {d:Option Nat} {f:FuncId} {az:List PV} (hs:callSt W st d f az=some st'):∃ n,callSt (F n) st d f az=some st':=by
 unfold callSt at hs ⊢
 split at hs
 ·rename_i hn
  obtain ⟨⟨vs,os,bx,oc⟩,h1,h2⟩:=qb hs
  obtain ⟨n,h3⟩:=h.fin _ _ _ _ _ h1
  dsimp only at h2
  split at h2
  ·rename_i hv
   exact ⟨n,by rw [if_pos hn,h3,Option.bind_some];dsimp only;rw [if_pos hv];exact h2⟩
  ·rename_i hv
   obtain ⟨m,h4⟩:=zk0 h h2
   exact ⟨max n m,by rw [if_pos hn,h.mono _ _ (Nat.le_max_left n m) _ _ _ _ _ h3,Option.bind_some];dsimp only;rw [if_neg hv];exact zhm (h.mono _ _ (Nat.le_max_right n m)) h4⟩
 ·rename_i hn
  obtain ⟨m,h4⟩:=zk0 h hs
  exact ⟨m,by rw [if_neg hn];exact h4⟩
theorem zms (h:Chain F W) {f:FuncId} {az:List PV} (hs:zcs W f az=true):∃ n,zcs (F n) f az=true:=by
 unfold zcs at hs ⊢
 simp only [Bool.and_eq_true] at hs ⊢
 obtain ⟨h0,hs⟩:=hs
 split at hs
 ·rename_i vs r e
  obtain ⟨n,hn⟩:=h.fin _ _ _ _ _ e
  exact ⟨n,h0,by rw [hn];exact hs⟩
 ·cases hs
theorem z09 (h:Chain F W) {sl:List (Nat × PV)} {op:COp} (hs:za7 W sl op=true):∃ n,za7 (F n) sl op=true:=by
 cases op
 case call f az=>exact zms h hs
 case callv g az =>
  simp only [za7] at hs ⊢
  split at hs
  ·simp only [Bool.and_eq_true] at hs ⊢
   obtain ⟨n,hn⟩:=zms h hs.2
   exact ⟨n,hs.1,hn⟩
  ·cases hs
 all_goals exact ⟨0,hs⟩
theorem zxp (h:Chain F W) {f k:Nat} {live:List Nat} {g:PV} {r:Out × St} (hs:zgp W f k live g st=some r):∃ n,zgp (F n) f k live g st=some r:=by
 unfold zgp at hs ⊢
 split at hs
 case h_2=>cases hs
 split at hs
 ·cases hs
 rename_i hne
 obtain ⟨s2,h1,h2⟩:=qb hs
 obtain ⟨n,hn⟩:=zk0 h h1
 exact ⟨n,by dsimp only;rw [if_neg hne,hn];exact h2⟩
theorem zsj (h:Chain F W) {d:Option Nat} {op:COp} (hs:zaa W st d op=some st'):∃ n,zaa (F n) st d op=some st':=by
 cases op
 case call f az=>simp only [zaa] at hs ⊢;exact zsi h hs
 case callv g az =>
  simp only [zaa] at hs ⊢
  split at hs
  ·split at hs
   ·cases hs
   ·rename_i hne;obtain ⟨n,hn⟩:=zsi h hs;exact ⟨n,by rw [if_neg hne];exact hn⟩
  ·exact zk0 h hs
  ·cases hs
 case asg x=>exact ⟨0,by rw [← zzb (c:=W)];exact hs⟩
 case append b n x y=>exact ⟨0,by rw [← zp8 (c:=W)];exact hs⟩
 case appendS x y=>exact ⟨0,by rw [← zoi (c:=W)];exact hs⟩
 all_goals exact ⟨0,hs⟩
theorem zj3 (h:Chain F W) {o:COper} (hs:stepG W st o=some st'):∃ n,stepG (F n) st o=some st':=by
 unfold stepG at hs ⊢
 obtain ⟨b,hb,h2⟩:=qb hs
 rw [hb]
 cases b
 ·exact ⟨0,h2⟩
 ·exact zsj h h2
theorem z3u (h:Chain F W) {o:COper} (hs:zer W st o=some st'):∃ n,zer (F n) st o=some st':=by
 unfold zer at hs ⊢
 obtain ⟨b,hb,h2⟩:=qb hs
 rw [hb]
 cases b
 ·exact ⟨0,h2⟩
 ·simp only [if_true,Option.bind_some] at h2 ⊢
  split at h2
  ·rename_i hp
   obtain ⟨n,hn⟩:=zsj h h2
   obtain ⟨m,hp⟩:=z09 h hp
   exact ⟨max n m,by rw [if_pos (zp7 (h.mono _ _ (Nat.le_max_right n m)) hp)];exact zl0 (h.mono _ _ (Nat.le_max_left n m)) hn⟩
  ·cases h2
theorem zvf (h:Chain F W):∀ {l:List COper} {st st':St},zc0 W l st=some st'→∃ n,zc0 (F n) l st=some st'
 | [],_,_,hs=>⟨0,hs⟩
 | o::l,st,st',hs=>by
   simp only [zc0] at hs
   obtain ⟨s,h1,h2⟩:=qb hs
   obtain ⟨n1,k1⟩:=zj3 h h1
   obtain ⟨n2,k2⟩:=zvf h h2
   refine ⟨max n1 n2,?_⟩
   simp only [zc0]
   rw [ze9 (h.mono _ _ (Nat.le_max_left ..)) k1]
   exact zkx (h.mono _ _ (Nat.le_max_right ..)) k2
theorem zvg (h:Chain F W):∀ {l:List COper} {st st':St},zhh W l st=some st'→∃ n,zhh (F n) l st=some st'
 | [],_,_,hs=>⟨0,hs⟩
 | o::l,st,st',hs=>by
   simp only [zhh] at hs
   obtain ⟨s,h1,h2⟩:=qb hs
   obtain ⟨n1,k1⟩:=z3u h h1
   obtain ⟨n2,k2⟩:=zvg h h2
   refine ⟨max n1 n2,?_⟩
   simp only [zhh]
   rw [zsg (h.mono _ _ (Nat.le_max_left ..)) k1]
   exact zky (h.mono _ _ (Nat.le_max_right ..)) k2
theorem ztw (h:Chain F W) {live:List Nat}:∀ {t:BT} {st r:St},evT W live t st=some r→∃ m,evT (F m) live t st=some r
 | .done,_,_,hs=>⟨0,hs⟩
 | .one o t,st,r,hs=>by
   simp only [evT] at hs
   obtain ⟨s,h1,h2⟩:=qb hs
   obtain ⟨n1,k1⟩:=zj3 h h1
   obtain ⟨n2,k2⟩:=ztw h h2
   refine ⟨max n1 n2,?_⟩
   simp only [evT]
   rw [ze9 (h.mono _ _ (Nat.le_max_left ..)) k1]
   exact zhz (h.mono _ _ (Nat.le_max_right ..)) k2
 | .two o t q,st,r,hs=>by
   simp only [evT] at hs
   obtain ⟨h1,h2⟩:=zmq hs
   obtain ⟨s,h3,h4⟩:=qb h1
   obtain ⟨n1,k1⟩:=zj3 h h3
   obtain ⟨n2,k2⟩:=ztw h h4
   obtain ⟨n3,k3⟩:=ztw h h2
   refine ⟨max n1 (max n2 n3),?_⟩
   simp only [evT]
   rw [ze9 (h.mono _ _ (Nat.le_max_left ..)) k1,Option.bind_some,zhz (h.mono _ _ (by omega)) k2,zhz (h.mono _ _ (by omega)) k3,zve]
theorem z3v (h:Chain F W) {st st':St} {o:COper} (hs:zdn W st o=some st'):∃ m,zdn (F m) st o=some st':=by
 unfold zdn at hs ⊢
 split at hs
 ·obtain ⟨s,h1,h2⟩:=qb hs
  obtain ⟨m,k⟩:=zj3 h h1
  exact ⟨m,by rw [k];exact h2⟩
 ·exact zj3 h hs
theorem z3w (h:Chain F W):∀ {l:List COper} {st st':St},evQ W l st=some st'→∃ m,evQ (F m) l st=some st'
 | [],_,_,hs=>⟨0,hs⟩
 | o::l,st,st',hs=>by
   simp only [evQ] at hs
   obtain ⟨s,h1,h2⟩:=qb hs
   obtain ⟨n1,k1⟩:=z3v h h1
   obtain ⟨n2,k2⟩:=z3w h h2
   refine ⟨max n1 n2,?_⟩
   simp only [evQ]
   rw [zsh (h.mono _ _ (Nat.le_max_left ..)) k1]
   exact zo4 (h.mono _ _ (Nat.le_max_right ..)) k2
theorem zi5 (h:Chain F W) {n:Nat}:∀ {k:CCode} {st:St} {r:Out × St},evC W n k st=some r→∃ m,evC (F m) n k st=some r
 | .skip,_,_,hs=>⟨0,hs⟩
 | .reg l p t,st,r,hs=>by
   simp only [evC] at hs
   obtain ⟨s,h1,h2⟩:=qm hs
   obtain ⟨s1,h3,h4⟩:=qb h1
   obtain ⟨n1,k1⟩:=zvg h h3
   obtain ⟨n2,k2⟩:=zvf h h4
   refine ⟨max n1 n2,?_⟩
   simp only [evC]
   rw [zky (h.mono _ _ (Nat.le_max_left ..)) k1,Option.bind_some,zkx (h.mono _ _ (Nat.le_max_right ..)) k2,Option.map_some,h2]
 | .regT l p t,st,r,hs=>by
   simp only [evC] at hs
   obtain ⟨s,h1,h2⟩:=qm hs
   obtain ⟨s1,h3,h4⟩:=qb h1
   obtain ⟨n1,k1⟩:=z3w h h3
   obtain ⟨n2,k2⟩:=ztw h h4
   refine ⟨max n1 n2,?_⟩
   simp only [evC]
   rw [zo4 (h.mono _ _ (Nat.le_max_left ..)) k1,Option.bind_some,zhz (h.mono _ _ (Nat.le_max_right ..)) k2,Option.map_some,h2]
 | .seq a b,st,r,hs=>by
   simp only [evC] at hs
   obtain ⟨⟨o,s⟩,h1,h2⟩:=qb hs
   obtain ⟨n1,k1⟩:=zi5 h h1
   cases o with
   | normal =>
     obtain ⟨n2,k2⟩:=zi5 h h2
     refine ⟨max n1 n2,?_⟩
     simp only [evC]
     rw [zde (h.mono _ _ (Nat.le_max_left ..)) (Nat.le_refl n) k1]
     exact zde (h.mono _ _ (Nat.le_max_right ..)) (Nat.le_refl n) k2
   | exit i=>exact ⟨n1,by simp only [evC];rw [k1];exact h2⟩
   | ret=>exact ⟨n1,by simp only [evC];rw [k1];exact h2⟩
 | .cond x a b,st,r,hs=>by
   simp only [evC] at hs ⊢
   split at hs
   ·rename_i t e
    cases t
    ·exact zi5 h hs
    ·exact zi5 h hs
   ·cases hs
 | .block id b,st,r,hs=>by
   simp only [evC] at hs ⊢
   obtain ⟨s,h1,h2⟩:=qm hs
   obtain ⟨n1,k1⟩:=zi5 h h1
   exact ⟨n1,by rw [k1,Option.map_some,h2]⟩
 | .range f k lv g,st,r,hs=>by
   simp only [evC] at hs ⊢
   exact zxp h hs
 | .loop lv b,st,r,hs=>by
   simp only [evC] at hs ⊢
   have key:∀ (k nb:Nat) (st:St) (r:Out × St),zb3 (evC W n b) lv nb k st=some r→∃ m,zb3 (evC (F m) n b) lv nb k st=some r:=by
    intro k nb
    induction k with
    | zero=>intro st r h;cases h
    | succ k ih =>
      intro st r hs
      simp only [zb3] at hs
      obtain ⟨⟨o,s⟩,h1,h2⟩:=qb hs
      obtain ⟨n1,k1⟩:=zi5 h h1
      cases o with
      | normal =>
        obtain ⟨n2,k2⟩:=ih _ r h2
        refine ⟨max n1 n2,?_⟩
        simp only [zb3]
        rw [zde (h.mono _ _ (Nat.le_max_left ..)) (Nat.le_refl n) k1]
        exact zl1 (fun s r hs=>zde (h.mono _ _ (Nat.le_max_right ..)) (Nat.le_refl n) hs) (Nat.le_refl k) k2
      | exit i=>exact ⟨n1,by simp only [zb3];rw [k1];exact h2⟩
      | ret=>exact ⟨n1,by simp only [zb3];rw [k1];exact h2⟩
   exact key n _ _ r hs
 | .exit id lv,_,_,hs=>⟨0,hs⟩
 | .ret lv,_,_,hs=>⟨0,hs⟩
theorem z3x:Chain (evF code lib) (evW code lib):=⟨fun n m h=>zkz h,fun f a b o r h=>zp9.1 h⟩
theorem ykn {f:FuncId} {k:CFun} (hk:code f=some k) {args:List PV} {bx:zao} {oc:List Loc} {r:Ans} {n:Nat} (h:evB (evW code lib) n k args bx oc=some r):evW code lib f args bx oc=some r:=by
 unfold evB at h
 split at h
 case isFalse=>cases h
 rename_i hl
 obtain ⟨p,h1,h2⟩:=qb h
 obtain ⟨m,h3⟩:=zi5 z3x h1
 refine zp9.2 ⟨max m n+1,?_⟩
 rw [zo5,hk]
 dsimp only
 unfold evB
 rw [if_pos hl,zde (zkz (Nat.le_max_left m n)) (Nat.le_max_right m n) h3]
 exact h2
theorem ye6 (hk:code yldF=none) {args:List PV} {bx:zao} {oc:List Loc} {r:Ans} {n:Nat} (h:zpo (evW code lib) code n args bx oc=some r):evW code lib yldF args bx oc=some r:=by
 unfold zpo at h
 split at h
 case h_2=>cases h
 rename_i b az
 split at h
 case h_2=>cases h
 rename_i e0 f k live snap e
 obtain ⟨kc,h1,h⟩:=qb h
 obtain ⟨q,h2,h⟩:=qb h
 split at h
 case isFalse=>cases h
 rename_i hl
 obtain ⟨⟨o1,s1⟩,h3,h4⟩:=qb h
 dsimp only at h4
 split at h4
 case h_2=>cases h4
 rename_i e1 f1 k1 live1 snap1 hs1
 obtain ⟨p,h5,h6⟩:=qb h4
 obtain ⟨m,h7⟩:=zi5 z3x h3
 obtain ⟨m2,h8⟩:=zi5 z3x h5
 refine zp9.2 ⟨max (max m m2) n+1,?_⟩
 rw [zo5,hk]
 dsimp only
 rw [if_pos rfl]
 unfold zpo
 dsimp only
 rw [e]
 dsimp only
 rw [h1,Option.bind_some,h2,Option.bind_some,if_pos hl,zde (zkz (by omega)) (by omega) h7,Option.bind_some]
 dsimp only
 rw [hs1]
 dsimp only
 rw [zde (zkz (by omega)) (by omega) h8]
 exact h6
theorem zd3 {f:FuncId} (hf:f≠yldF) (hk:code f=none) {args:List PV} {bx:zao} {oc:List Loc} {r:Ans} (h:lib f args bx oc=some r):evW code lib f args bx oc=some r :=
 zp9.2 ⟨1,by rw [zo5,hk];dsimp only;rw [if_neg hf];exact h⟩
theorem z3y {P:Program} {Γ:Glob} (hm:P.follows .mixedOrders=true) (hyn:P.funcs[yldF]? =none) (hcode:∀ f c,code f=some c→∃ lv,zp4 P lv f=some c) (hlib:zbv P Γ lib):zbv P Γ (evW code lib):=fun f args bx oc vs' os bx' oc' h=>by
 obtain ⟨n,hn⟩:=zp9.1 h
 exact ykm hm hyn hcode hlib n f args bx oc vs' os bx' oc' hn
end Nun
namespace Nun
open Go Go.RowKit Go.WideShapes Go.ChangeShapes
def fit (P:Program):Nat→TypeId→List PV→Prop
 | 0,_,_=>False
 | n+1,t,ps=>match P.underlying t with
   | some .bool=>∃ b,ps=[.flat (.bool b)]
   | some (.int k)=>∃ i,ps=[.flat (.int k i)]∧(Lit.int k i).wf=true
   | some .string=>∃ s:ByteArray,ps=[.flat (.string s)]∧s.size≤maxLen
   | some (.pointer e)=>ps=[.flat (.pointer none)]∨(P.cellsOf e=0∧ps=[.unk])∨∃ qs,ps=[.elt qs]∧fit P n e qs
   | some (.slice e)=>∃ xss:List (List PV),ps=[.slc xss.length xss.flatten]∧xss.length≤maxLen∧∀ xs∈xss,fit P n e xs
   | some (.struct fs)=>∃ xss:List (List PV),ps=xss.flatten∧xss.length=fs.size∧∀ (j:Nat) (f:Field) (xs:List PV),fs[j]? =some f→xss[j]? =some xs→fit P n f.type xs
   | some (.array m e)=>∃ xss:List (List PV),ps=xss.flatten∧xss.length=m∧∀ xs∈xss,fit P n e xs
   | _=>True
section
variable {H:Type} {enc:TypeId × Value→H} {P:Program} {w:World} {base:Nat} {spare:Nat→Bool} {held:Bool}
end
end Nun
namespace Nun
open Go Go.RowKit
variable {P:Program} {Γ:Glob} {cf:Callee}
theorem z9k (h:zbv P Γ cf) {f:FuncId} (hf:f≠yldF) {args:List PV} {v:Value} {os:Bool} {bx:zao} {oc:List Loc} (he:cf f args [] []=some ([.flat v],os,bx,oc)) {w:World} {Fr:Nat→Nat} {vs:List Value} (hG:Γ.G w) (hr:Rds w Fr [] args vs) :
 Calls P f vs.toArray w fun e w'=>e=.returned v∧Below w.heap.size w w':=by
 have h2:=h f args [] [] _ _ _ _ he w Fr [] vs ⟨hG,hr,zpw w Fr,(fun L h=>by cases h),fun g _=>zfk⟩
 unfold Enters at h2
 rw [if_neg hf] at h2
 refine h2.2.mono ?_
 rintro e w' ⟨v0,Fr',β',rfl,hp⟩
 have:=hp.rd
 simp only [zd7,Rd] at this
 obtain ⟨rfl,_⟩:=this
 exact ⟨rfl,hp.rel.os,hp.rel.tape,hp.rel.output,hp.le.size,fun k hk=>(hp.rel.old k hk zfk).1⟩
def z1a:List PV→Option (List Value)
 | []=>some []
 | .flat v::r=>(z1a r).map (v::·)
 | _=>none
theorem zqa {w:World} {Fr:Nat→Nat} {β:List Nat}:∀ {args:List PV} {us vs:List Value},z1a args=some us→Rds w Fr β args vs→vs=us
 | [],us,vs,h,k=>by simp [z1a] at h;simp [Rds] at k;rw [k,← h]
 | p::r,us,vs,h,k=>by
   cases p<;>simp only [z1a] at h<;>try (cases h;done)
   rename_i v
   obtain ⟨us',h1,rfl⟩:=qm h
   simp only [Rds] at k
   obtain ⟨u,vs',rfl,k1,k2⟩:=k
   simp only [Rd] at k1
   rw [k1.1,zqa h1 k2]
def Rn (x:Option (Out × St)) (Q:Out→St→Prop):Prop:=∃ o s,x=some (o,s)∧Q o s
theorem Rn.mono {x:Option (Out × St)} {Q R:Out→St→Prop} (h:Rn x Q) (k:∀ o s,Q o s→R o s):Rn x R:=by
 obtain ⟨o,s,h1,h2⟩:=h
 exact ⟨o,s,h1,k o s h2⟩
def big:Nat:=2 ^ 64
end Nun
end

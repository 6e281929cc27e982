/- Texts of this proof, merged. -/
import Derived.Test.YtmpiobfdchlikaaGreatDoorBc
import Derived.Test.YtmpiobfdchlikaaGreatDoorRows
import Derived.Shelf.Strings.BuilderK
import Derived.Lib.FrozenHead2
import Derived.Lib.OthersKept
import Derived.Lib.Builder
import Derived.Laws.Externs
set_option linter.all false
set_option maxHeartbeats 4000000
namespace Go.Proofs.YtmpiobfdchlikaaGreatDoor
open Go.RowKit Nun
theorem yp4:(Tryz.prog.info? 59).map (·.size)=some 2:=by kernel_rfl
set_option maxRecDepth 100000 in
theorem yul(b o:Nat)(w:World)(h0:w.cell? ⟨b,o,none⟩=some (.pointer (some ⟨b,o,none⟩))):
 Calls Tryz.prog 95 #[.pointer (some ⟨b,o,none⟩)] w fun e w'=>e=.returned (.tuple #[])/\w'=w:=by
 obtain⟨j,hj,_⟩:=qm yp4
 go_enter Tryz.func95,Tryz.ntmps95
 go_wp2;rw[Lib.run_neq_ptr_same w _ Tryz.underlying57 hj];go_wp2
 go_end0
 exact⟨rfl,rfl⟩
set_option maxRecDepth 100000 in
theorem ynf(b o e cells:Nat)(w:World)(h0:w.cell? ⟨b,o,none⟩=some (.pointer none))(hsh:w.shape? b=some (e,cells))(ho:o<cells)(hl:liesAt Tryz.prog Tryz.prog.depth e (cells/Tryz.prog.cellsOf e) o 59 1=true)(hfz:w.frozen? ⟨b,o,none⟩=false):
 Calls Tryz.prog 95 #[.pointer (some ⟨b,o,none⟩)] w fun e w'=>e=.returned (.tuple #[])/\w'=w.setCell ⟨b,o,none⟩ (.pointer (some ⟨b,o,none⟩)):=by
 obtain⟨j,hj,hjs⟩:=qm yp4;have hc0:(w.setCell ⟨b,o,none⟩ (.pointer (some ⟨b,o,none⟩))).cell? ⟨b,o,none⟩=some (.pointer (some ⟨b,o,none⟩)):=World.cell?_setCell_same' _ _ _ (by rw[h0];rfl)
 go_enter Tryz.func95,Tryz.ntmps95
 go_wp2;rw[Lib.run_to_unsafe w ⟨b,o,none⟩ Tryz.underlying57 Tryz.underlying184 hj (by rw[hjs];decide) hsh ho];simp only[Result.andThen];rw[wdu];go_wp2;rw[run_callFunc_extern Tryz.func151 (by kernel_rfl) (by kernel_rfl) (by kernel_rfl) (e:=Extern.AbiNoEscape.same) (by kernel_rfl)];rw[Lib.run_noEscape];simp only[Result.andThen];rw[wdu];go_wp2;rw[Lib.run_from_unsafe w ⟨b,o,none⟩ Tryz.underlying184 Tryz.underlying57 hj hsh hl];simp only[Result.andThen];rw[wdu];go_wp2
 go_end0
 exact⟨rfl,rfl⟩
def yg3(w:World)(g n:Nat)(w':World):Prop:=w'.heap=(w.freeze ⟨g,0,none⟩ n).heap/\w'.os=w.os/\w'.tape=w.tape/\w'.output=w.output
set_option maxRecDepth 100000 in
theorem y0k(b o g cap cells:Nat)(l:List UInt8)(w:World)(h0:l≠[])(hcap:cap≠0)(c0:w.cell? ⟨b,o+1,none⟩=some (.slice (some ⟨g,0,none⟩) l.length cap))(hsh:w.shape? g=some (5,cells))(hn:l.length<=cells)(hmx:l.length<=maxLen)(hcell:∀j x,l[j]?=some x->w.cell? ((⟨g,0,none⟩:Addr).add j)=some (.int .u8 x.toNat)):
 Calls Tryz.prog 28 #[.pointer (some ⟨b,o,none⟩)] w fun e w'=>e=.returned (.string ⟨l.toArray⟩)/\yg3 w g l.length w':=by
 have c1:w.drew.cell? ⟨b,o+1,none⟩=some (.slice (some ⟨g,0,none⟩) l.length cap):=c0;have hSD:(Builtin.unsafeSliceData_ #[44] 93 #[.slice (some ⟨g,0,none⟩) l.length cap]).run Tryz.prog w.drew=.ok (.pointer (some ⟨g,0,none⟩)) w.drew:=
  Lib.run_unsafeSliceData_row _ _ _ _ _ _ hcap
 have hUS:(Builtin.unsafeString_ #[93,3] 9 #[.pointer (some ⟨g,0,none⟩),.int .i64 l.length]).run Tryz.prog w.drew=.ok (.string ⟨l.toArray⟩) (w.drew.freeze ⟨g,0,none⟩ l.length):=
  Lib.run_unsafeString_row w.drew 93 3 9 5 Tryz.underlying93 (by kernel_rfl) g cells hsh l h0 hn (by unfold maxLen at hmx;omega) hcell
 have hq:yg3 w g l.length (w.drew.freeze ⟨g,0,none⟩ l.length):=by
  refine⟨?_,?_,?_,?_⟩<;>unfold World.freeze<;>(have:w.drew.heap=w.heap:=rfl)<;>rw[this]<;>split<;>rfl
 have mixed:=Tryz.checked.mixed
 go_enter Tryz.func28,Tryz.ntmps28
 go_wp2
 go_region_o
 all_goals (go_wp2;go_ret;exact⟨rfl,hq⟩)
set_option maxRecDepth 100000 in
theorem y0l(b o:Nat)(w:World)(c0:w.cell? ⟨b,o+1,none⟩=some (.slice none 0 0)):
 Calls Tryz.prog 28 #[.pointer (some ⟨b,o,none⟩)] w fun e w'=>e=.returned (.string ⟨#[]⟩)/\Below w.heap.size w w':=by
 have c1:w.drew.cell? ⟨b,o+1,none⟩=some (.slice none 0 0):=c0;have hUS:=fun(W:World)(q:Option Addr)=>Lib.run_unsafeString_none (P:=Tryz.prog) W 93 3 9 q
 have hSD:(Builtin.unsafeSliceData_ #[44] 93 #[.slice none 0 0]).run Tryz.prog w.drew=.ok (.pointer none) w.drew:=rfl;have mixed:=Tryz.checked.mixed
 go_enter Tryz.func28,Tryz.ntmps28
 go_wp2
 go_region_o
 all_goals (go_wp2;go_ret;exact⟨rfl,Below.drew (Below.refl _ w)⟩)
set_option maxRecDepth 100000 in
theorem yum(b o g e cells:Nat)(w:World)(c0:w.cell? ⟨b,o+1,none⟩=some (.slice (some ⟨g,0,none⟩) 0 0))(hlt:b<w.heap.size)(hsh:w.shape? g=some (e,cells)):
 Calls Tryz.prog 28 #[.pointer (some ⟨b,o,none⟩)] w fun e w'=>e=.returned (.string ⟨#[]⟩)/\Below w.heap.size w w':=by
 have hUS:=fun(W:World)(q:Option Addr)=>Lib.run_unsafeString_none (P:=Tryz.prog) W 93 3 9 q
 have c1:w.drew.cell? ⟨b,o+1,none⟩=some (.slice (some ⟨g,0,none⟩) 0 0):=c0;have hSD:(Builtin.unsafeSliceData_ #[44] 93 #[.slice (some ⟨g,0,none⟩) 0 0]).run Tryz.prog w.drew=.ok (.pointer (some ⟨w.drew.heap.size,0,none⟩)) (w.drew.alloc (.view ⟨g,0,none⟩ 5)):=
  Lib.run_unsafeSliceData_zero w.drew _ _ 5 Tryz.underlying93 ⟨g,0,none⟩ 0 (e,cells) hsh
 have c2:(w.drew.alloc (.view ⟨g,0,none⟩ 5)).cell? ⟨b,o+1,none⟩=some (.slice (some ⟨g,0,none⟩) 0 0):=by
  have hb:(w.drew.alloc (.view ⟨g,0,none⟩ 5)).heap[b]?=w.heap[b]?:=Lib.alloc_old w.drew _ b hlt;rw[<-c0];simp only[World.cell?,hb]
 have c3:(w.alloc (.view ⟨g,0,none⟩ 5)).drew.cell? ⟨b,o+1,none⟩=some (.slice (some ⟨g,0,none⟩) 0 0):=c2;have mixed:=Tryz.checked.mixed
 go_enter Tryz.func28,Tryz.ntmps28
 go_wp2
 go_region_o
 all_goals (go_wp2;go_ret;exact⟨rfl,(Below.drew (Below.refl _ w)).alloc (wab _) _⟩)
end Go.Proofs.YtmpiobfdchlikaaGreatDoor
section
namespace Nun
open Go Go.RowKit Go.Proofs Go.Proofs.YtmpiobfdchlikaaGreatDoor
noncomputable def yng(args:List PV)(bx:zae)(oc:List Loc):Option Ans:=match args with
 |[.ptr b o]=>(zes bx b).bind fun q=>match q.2[o]? with
  |some (.flat (.pointer none))=>if o<q.2.length/\liesAt Tryz.prog Tryz.prog.depth q.1 (q.2.length/Tryz.prog.cellsOf q.1) o 59 1=true then some ([],false,bx.set b (q.1,q.2.take o++[.ptr b o]++q.2.drop (o+1)),oc)else none
  |some (.ptr b' o')=>if b'=b/\o'=o then some ([],false,bx,oc)else none
  |_=>none
 |_=>none
def ynh(args:List PV)(bx:zae)(oc:List Loc):Option Ans:=match args with
 |[.ptr b o]=>(zes bx b).bind fun q=>match q.2[o+1]? with
  |some (.slc n cs)=>if cs.length=n/\.cell b (o+1)∈oc then(bytesOf cs).map fun l=>([.flat (.string ⟨l.toArray⟩)],false,bx,oc.filter (·≠.cell b (o+1)))else none
  |_=>none
 |_=>none
noncomputable def zt4:Callee:=fun f args bx oc=>if f=95 then yng args bx oc else if f=28 then ynh args bx oc else none
section
variable {Γ:Glob}
theorem y29{args:List PV}{bx:zae}{oc:List Loc}{vs':List PV}{os:Bool}{bx':zae}{oc':List Loc}(he:yng args bx oc=some (vs',os,bx',oc')){w:World}{Fr:Nat->Nat}{β:List Nat}{vs:List Value}(hp:Pre Tryz.prog Γ w Fr β args vs bx oc):
 Calls Tryz.prog 95 vs.toArray w fun e w'=>∃v Fr' β',e=.returned v/\Post Tryz.prog w Fr β oc vs' os bx' oc' v w' Fr' β':=by
 unfold yng at he;split at he
 case h_2=>cases he
 rename_i b o;obtain⟨q,hq,he2⟩:=qb he;clear he;have hR:=hp.rel;have ha:=hp.args;simp only[Rds,Rd]at ha;obtain⟨_,_,rfl,⟨g,hg,rfl⟩,rfl⟩:=ha;obtain⟨hqs,hlp,g',cvs,e,b1,b2,b3,b4,b5,b6⟩:=hR.bx.cells hq;rw[hg]at b1;cases b1;have hcl:=b3.length;have hsh:w.shape? g=some (q.1,q.2.length):=by simp[World.shape?,b2,b6,hcl]
 have rdt:∀{w':World}{Fr':Nat->Nat}{β':List Nat},Rd w' Fr' β' (zef []) (.tuple #[]):=by simp[zef,Rd,Rds]
 split at he2
 ·rename_i ho
  split at he2
  case isFalse=>cases he2
  rename_i hc;cases he2;obtain⟨u,u1,u2⟩:=b3.get o _ ho;obtain⟨rfl,_⟩:=zbc u2;have h0:w.cell? ⟨g,o,none⟩=some (.pointer none):=by rw[cell_of_row _ _ _ _ _ _ b2];simpa using u1
  refine(ynf g o q.1 q.2.length w h0 hsh hc.1 hc.2 (Lib.frozen_of_heap b2 o)).mono ?_;rintro e' w' ⟨rfl,rfl⟩;have hset:w.setCell ⟨g,o,none⟩ (.pointer (some ⟨g,o,none⟩))=w.setRow g (cvs.take o++[Value.pointer (some ⟨g,o,none⟩)]++cvs.drop (o+1)).toArray:=by
   rw[setCell_eq_setRow w g o _ _ _ _ b2];congr 1;apply wba;have hlt:o<cvs.length:=by omega
   rw[Array.toList_setIfInBounds,List.set_eq_take_append_cons_drop];simp[hlt]
  rw[hset];have hno:∀L∈oc,ze0 b o 1 L=false:=fun L hL=>by
   cases L with
   |slot i=>rfl
   |cell b' j=>
    rw[wdn];intro hm;have hbj:b'=b/\j=o:=by
     simp only[ze0,wb1,beq_iff_eq,decide_eq_true_eq]at hm;exact⟨hm.1.1,by omega⟩
    obtain⟨rfl,rfl⟩:=hbj;obtain⟨v,p,k1,k2,n,cs,k3,_⟩:=hR.own _ hL;have hb:(zli bx oc).bx=bx:=rfl;simp only[pvAt,hb]at k2;have hqs':bx[b']?=some q:=hqs;rw[hqs',wat,ho,k3]at k2;cases k2
  obtain⟨R',hl⟩:=hR.store (o:=o) (n:=1) (ps:=[.ptr b o]) (us:=[Value.pointer (some ⟨g,o,none⟩)]) (e:=e) (cs:=q.2) (by rw[<-b6];exact hqs) hg b2 b3 b4 (by simp only[Rds,Rd];exact⟨_,_,rfl,⟨g,hg,rfl⟩,rfl⟩) (fun u hu=>by simp at hu;subst hu;rfl) rfl (by omega) (by omega) none (fun s h=>by cases h)
   (zli (bx.set b (q.1,q.2.take o++[.ptr b o]++q.2.drop (o+1))) oc) rfl (by rw[b6];rfl) (fun L hL=>.inl ⟨hL,hno L hL,fun s h=>by cases h⟩) (fun q hq=>by cases hq)
  exact⟨.tuple #[],Fr,β,rfl,rdt,R',hl,hp.cells,fun h=>by cases h⟩
 ·rename_i b' o' ho
  split at he2
  case isFalse=>cases he2
  rename_i hc;cases he2;obtain⟨rfl,rfl⟩:=hc;obtain⟨u,u1,u2⟩:=b3.get o' _ ho;simp only[Rd]at u2;obtain⟨g2,hg2,rfl⟩:=u2;rw[hg]at hg2;cases hg2;have h0:w.cell? ⟨g,o',none⟩=some (.pointer (some ⟨g,o',none⟩)):=by rw[cell_of_row _ _ _ _ _ _ b2];simpa using u1
  refine(yul g o' w h0).mono ?_;rintro e' w' ⟨rfl,rfl⟩;exact⟨.tuple #[],Fr,β,rfl,rdt,hR,Le.refl _ _ _,hp.cells,fun h=>by cases h⟩
 ·cases he2
theorem y3a:U8 Tryz.prog=5:=by kernel_rfl
theorem ycs:∀{cs:List PV}{l:List UInt8},bytesOf cs=some l->l≠[]->noU8 cs=false
 |[],l,h,h0=>by simp only[bytesOf,war]at h;exact absurd h.symm h0
 |p::r,l,h,h0=>by
  unfold bytesOf at h;split at h
  ·rename_i e;cases e
  ·rename_i e;cases e;rfl
  ·cases h
theorem yct{w w':World}{g n:Nat}(h:yg3 w g n w')(a:Addr):w'.cell? a=w.cell? a:=by
 obtain⟨h,_⟩:=h;unfold World.freeze at h;split at h
 ·simp only[World.cell?,h]
 ·simp only[World.cell?,h,Array.getElem?_modify]
  by_cases e:g=a.block
  ·subst e
   simp only[if_true];generalize w.heap[a.block]?=x;cases x with
   |none=>rfl
   |some o=>cases o<;>rfl
  ·rw[if_neg e]
theorem z7x{w w':World}{g n k:Nat}(h:yg3 w g n w')(hk:k≠g):w'.heap[k]?=w.heap[k]?:=by
 obtain⟨h,_⟩:=h;unfold World.freeze at h;split at h
 ·rw[h]
 ·rw[h];simp only[Array.getElem?_modify,if_neg (was hk)]
theorem ycu{w w':World}{g n:Nat}(h:yg3 w g n w'):w'.heap.size=w.heap.size:=by
 obtain⟨h,_⟩:=h;unfold World.freeze at h;split at h
 ·rw[h]
 ·rw[h];simp
theorem zxc:∀{cs:List PV}{l:List UInt8},bytesOf cs=some l->l.length=cs.length
 |[],l,h=>by simp only[bytesOf,war]at h;subst h;rfl
 |p::r,l,h=>by
  unfold bytesOf at h;split at h
  ·rename_i e;cases e
  ·rename_i n r' e
   cases e;split at h
   ·obtain⟨l',hl',rfl⟩:=qm h
    simp[zxc hl']
   ·cases h
  ·cases h
theorem y3b{args:List PV}{bx:zae}{oc:List Loc}{vs':List PV}{os:Bool}{bx':zae}{oc':List Loc}(he:ynh args bx oc=some (vs',os,bx',oc')){w:World}{Fr:Nat->Nat}{β:List Nat}{vs:List Value}(hp:Pre Tryz.prog Γ w Fr β args vs bx oc):
 Calls Tryz.prog 28 vs.toArray w fun e w'=>∃v Fr' β',e=.returned v/\Post Tryz.prog w Fr β oc vs' os bx' oc' v w' Fr' β':=by
 unfold ynh at he;split at he
 case h_2=>cases he
 rename_i b o;obtain⟨q,hq,he2⟩:=qb he;clear he;have hR:=hp.rel;have ha:=hp.args;simp only[Rds,Rd]at ha;obtain⟨_,_,rfl,⟨g,hg,rfl⟩,rfl⟩:=ha;split at he2
 case h_2=>cases he2
 rename_i n cs ho;split at he2
 case isFalse=>cases he2
 rename_i hc;obtain⟨hcn,hown⟩:=hc;obtain⟨l,hl,he3⟩:=qm he2;clear he2;cases he3;obtain⟨hqs,hlp,g',cvs,e,b1,b2,b3,b4,b5,b6⟩:=hR.bx.cells hq;rw[hg]at b1;cases b1;have hglt:g<w.heap.size:=(wan.1 b2).1;have hll:=zxc hl;obtain⟨v,p,k1,k2,k3⟩:=hR.own _ hown;have hrd:=hR.rdAt k1 k2;have hb:(zli bx oc).bx=bx:=rfl;have hqs':bx[b]?=some q:=hqs;simp only[pvAt,hb,hqs',wat,ho,war]at k2;subst k2;have c0:w.cell? ⟨g,o+1,none⟩=some v:=by simpa only[zay,hg,wat]using k1
 have fin:∀w',Rel Tryz.prog [] w.heap.size (zgy w β oc) w Fr 0 (zli bx (oc.filter (·≠.cell b (o+1)))) act0 w' Fr β->Le w Fr β w' Fr β->Post Tryz.prog w Fr β oc [.flat (.string ⟨l.toArray⟩)] false bx (oc.filter (·≠.cell b (o+1))) (.string ⟨l.toArray⟩) w' Fr β:=fun w' R' hl'=>
  ⟨zdd rfl,R',hl',fun L hL=>hp.cells L (wbw.1 hL).1,fun h=>by cases h⟩
 have grown:∀w',Below w.heap.size w w'->Post Tryz.prog w Fr β oc [.flat (.string ⟨l.toArray⟩)] false bx (oc.filter (·≠.cell b (o+1))) (.string ⟨l.toArray⟩) w' Fr β:=fun w' hb=>by
  obtain⟨R',hl'⟩:=hR.grow hb (Fr':=Fr) fun _ _=>rfl
  exact fin w' (R'.cut0 (st':=zli bx (oc.filter (·≠.cell b (o+1)))) (fun i=>.inl rfl) rfl (fun L hL=>⟨(wbw.1 hL).1,fun i _=>rfl⟩) rfl) hl'
 obtain⟨n',cs',hpe,hv⟩:=k3;cases hpe;rcases hv with rfl|⟨g2,cap,cur,e2,sz,rfl,h2,h3,h4,h5,h6,h7,h8,h9⟩
 ·have hn0:n=0:=by
   simp only[Rd]at hrd;obtain⟨a,cap,h1,_⟩:=hrd;cases h1;rfl
  have hl0:l=[]:=qz (by omega);subst hl0;refine(y0l g o w c0).mono ?_;rintro e' w' ⟨rfl,hb⟩;exact⟨_,Fr,β,rfl,grown w' hb⟩
 ·by_cases hl0:l=[]
  ·subst hl0
   have hn0:n=0:=by simp at hll;omega
   have hc0:cap=0:=h8 hn0;subst hn0;subst hc0;refine(yum g o g2 e2 cur.size w c0 hglt (by simp[World.shape?,h2])).mono ?_;rintro e' w' ⟨rfl,hb⟩;exact⟨_,Fr,β,rfl,grown w' hb⟩
  ·have hlp0:0<l.length:=List.length_pos_iff.2 hl0
   have hnl:n=l.length:=by omega
   subst hnl;have hsz:sz=1:=by
    have:l.length* sz=l.length* 1:=by rw[<-h7];omega
    exact Nat.eq_of_mul_eq_mul_left hlp0 this
   subst hsz;have heU:e2=5:=by
    rcases h9 rfl with h|h
    ·rw[ycs hl hl0]at h;cases h
    ·rw[h];exact y3a
   subst heU;have hrow:∀j x,l[j]?=some x->w.cell? ((⟨g2,0,none⟩:Addr).add j)=some (.int .u8 x.toNat):=fun j x hj=>by
    simp only[Rd]at hrd;obtain⟨a,cap',h1,_,hr⟩:=hrd;rcases hr with⟨_,h0⟩|⟨g3,o3,vs3,rfl,r1,r2,r3⟩
    ·omega
    ·cases h1
     have hb:=zlg hl r2;rw[zy7];exact(r1 j _ (by rw[hb,wbu,hj];rfl)).2
   have hng:∀k∈β,k≠g2:=fun k hk e=>hR.out _ hown _ g2 k1 rfl (e▸hk)
   refine(y0k g o g2 cap cur.size l w hl0 (by omega) c0 (by simp[World.shape?,h2]) (by omega) (by omega) hrow).mono ?_;rintro e' w' ⟨rfl,hf⟩;have hcell:=yct hf;have hoth:∀k,k≠g2->w'.heap[k]?=w.heap[k]?:=fun k hk=>z7x hf hk
   have hle:Le w Fr β w' Fr β:=⟨by rw[ycu hf];exact wab _,fun _ _=>wab _,fun k j _ _=>hcell _,fun _ _ h=>h,fun k r hk=>⟨r,(hoth k fun e=>by rw[e,h2]at hk;cases hk).trans hk⟩⟩;have hval:∀L,zay act0 w' β L=zay act0 w β L:=fun L=>by
    cases L with
    |slot i=>rfl
    |cell b' j=>
     simp only[zay];cases β[b']? with
     |none=>rfl
     |some k=>simp only[wat,hcell]
   have mem:∀L,L∈oc.filter (·≠.cell b (o+1))->L∈oc/\L≠.cell b (o+1):=fun L hL=>by simpa using hL
   refine⟨_,Fr,β,rfl,fin w' (hR.next hle (fun i=>by simp[zli,look,Rd]) rfl rfl (hR.bx.kept hle fun k hk=>⟨hoth k (hng k hk),rfl⟩) hR.nd (fun g h=>.inl h) some (fun L hL=>?_) (fun L _ L' _ hne L0 h h'=>hne (by cases h;cases h';rfl)) (fun L _ L' _ _ h=>by cases h) (fun q hq=>by cases hq) (fun k hk _ hno=>⟨hoth k fun e=>hno _ hown _ k1 (by rw[e];rfl),rfl⟩) hf.2.1 hf.2.2.1 hf.2.2.2) hle⟩;obtain⟨m1,m2⟩:=mem L hL;obtain⟨u,q',j1,j2,j3⟩:=hR.own L m1;refine⟨u,q',by rw[hval];exact j1,?_,j3.kept fun k hk=>⟨hoth k fun e=>?_,rfl⟩,fun k hk=>.inr ⟨L,m1,rfl,u,j1,hk⟩⟩
   ·cases L with
    |slot i=>exact j2
    |cell b' j=>exact j2
   ·exact hR.sep L m1 _ hown m2 u _ k j1 k1 hk (by rw[e];rfl)
theorem z43:zcj Tryz.prog Γ zt4:=fun f args bx oc vs' os bx' oc' he w Fr β vs hp=>by
 unfold zt4 at he;split at he
 ·rename_i hf
  subst hf;exact enters_of (by kernel_rfl) (by decide) (y29 he hp)
 ·split at he
  ·rename_i hf
   subst hf;exact enters_of (by kernel_rfl) (by decide) (y3b he hp)
  ·cases he
end
end Nun
end
namespace Nun
open Go Go.RowKit Go.Proofs Go.Proofs.YtmpiobfdchlikaaGreatDoor
variable {lib:Callee}
def zgp(lib:Callee):Prop:=∀f args bx oc r,zt4 f args bx oc=some r->lib f args bx oc=some r
def bld(u:Bool)(b:Nat)(l:Str)(rest:List PV):List PV:=(match u with|true=>.ptr b 0|false=>.flat (.pointer none))::.slc l.length (zc8 l)::rest
def liesB(e n:Nat):Prop:=liesAt Tryz.prog Tryz.prog.depth e (n/Tryz.prog.cellsOf e) 0 59 1=true
theorem zzz:liesB 59 2:=by unfold liesB;kernel_rfl
theorem yp5{u:Bool}{b:Nat}{l:Str}{rest:List PV}:isLp (bld u b l rest)=false:=by cases u<;>rfl
theorem y0m(HB:zgp lib){bx:zae}{oc:List Loc}{b e:Nat}{u:Bool}{l:Str}{rest:List PV}(hb:bx[b]?=some (e,bld u b l rest))(hl:liesB e (2+rest.length)):
 evW code lib 95 [.ptr b 0] bx oc=some ([],false,bx.set b (e,bld true b l rest),oc):=by
 refine zde (by decide) (by kernel_rfl) (HB _ _ _ _ _ ?_);have hba:zes bx b=some (e,bld u b l rest):=by rw[z1v,hb,z1w,yp5];rfl
 unfold zt4 yng;rw[if_pos rfl];dsimp only;rw[hba,wat];cases u with
 |false=>
  have hc:0<(bld false b l rest).length/\liesAt Tryz.prog Tryz.prog.depth e ((bld false b l rest).length/Tryz.prog.cellsOf e) 0 59 1=true:=⟨by simp[bld],by
   have:(bld false b l rest).length=2+rest.length:=by simp[bld];omega
   rw[this];exact hl⟩
  show(if _ then _ else _)=_;rw[if_pos hc];rfl
 |true=>
  show(if b=b/\0=0 then _ else _)=_;rw[if_pos ⟨rfl,rfl⟩,zjt hb]
theorem ycv(HB:zgp lib){bx:zae}{oc:List Loc}{b e:Nat}{u:Bool}{l:Str}{rest:List PV}(hb:bx[b]?=some (e,bld u b l rest))(ho:.cell b 1∈oc):
 evW code lib 28 [.ptr b 0] bx oc=some ([.flat (.string (S l))],false,bx,zer (.cell b 1) oc):=by
 refine zde (by decide) (by kernel_rfl) (HB _ _ _ _ _ ?_);have hba:zes bx b=some (e,bld u b l rest):=by rw[z1v,hb,z1w,yp5];rfl
 unfold zt4 ynh;rw[if_neg (by decide),if_pos rfl];dsimp only;rw[hba,wat];show(if(zc8 l).length=l.length/\.cell b 1∈oc then _ else _)=_;rw[if_pos ⟨zsv,ho⟩,zpq];rfl
theorem zxd(HB:zgp lib){bx:zae}{r:List (Nat×Nat)}{b e:Nat}{u:Bool}{l m:Str}{rest:List PV}(hb:bx[b]?=some (e,bld u b l rest))(hl:liesB e (2+rest.length))(hs:l.length+m.length<=bound)(hr:∀q∈r,q≠(b,1))(hlt:∀q∈r,q.1<bx.length):
 evW code lib 47 [.ptr b 0,.flat (.string (S m))] bx (.cell b 1::cl r)=some ([.flat (.int .i64 m.length),.flat .nilIface],false,bx.set b (e,bld true b (l++m) rest),.cell b 1::cl r):=by
 refine zab zgs (qa rfl) ?_;have hblt:b<bx.length:=(qg hb).1;have hcc:=fun oc=>y0m (oc:=oc) HB hb hl
 obtain⟨bx1,h1⟩:∃bx1,bx.set b (e,bld true b l rest)=bx1:=⟨_,rfl⟩;have hb1:bx1[b]?=some (e,.ptr b 0::.slc l.length (zc8 l)::rest):=by rw[<-h1,wbp hblt];rfl
 have hl1:bx1.length=bx.length:=by rw[<-h1,wbo]
 have hset:∀q,bx1.set b q=bx.set b q:=fun q=>by rw[<-h1,wcb]
 rw[h1]at hcc;simp only[go_sem,simprocAttr,hcc,zal,zak,zaf,zap,zaj,zgn r hr,zb6 r hr,zah r hlt,hb1,hl1,hblt,wbo,zai,z97,znq,zzw,zsv,hs,hset,zag];simp only[bld,wb0]
theorem yun(HB:zgp lib){bx:zae}{r:List (Nat×Nat)}{b e:Nat}{u:Bool}{l:Str}{c:UInt8}{rest:List PV}(hb:bx[b]?=some (e,bld u b l rest))(hl:liesB e (2+rest.length))(hs:l.length+1<=bound)(hr:∀q∈r,q≠(b,1))(hlt:∀q∈r,q.1<bx.length):
 evW code lib 84 [.ptr b 0,.flat (.int .u8 c.toNat)] bx (.cell b 1::cl r)=some ([.flat .nilIface],false,bx.set b (e,bld true b (l++[c]) rest),.cell b 1::cl r):=by
 refine zab zhi (qa rfl) ?_;have hblt:b<bx.length:=(qg hb).1;have hcc:=fun oc=>y0m (oc:=oc) HB hb hl
 obtain⟨bx1,h1⟩:∃bx1,bx.set b (e,bld true b l rest)=bx1:=⟨_,rfl⟩;have hb1:bx1[b]?=some (e,.ptr b 0::.slc l.length (zc8 l)::rest):=by rw[<-h1,wbp hblt];rfl
 have hl1:bx1.length=bx.length:=by rw[<-h1,wbo]
 have hset:∀q,bx1.set b q=bx.set b q:=fun q=>by rw[<-h1,wcb]
 have hbc:[PV.flat (.int .u8 c.toNat)]=zc8 [c]:=rfl;rw[h1]at hcc;simp only[go_sem,simprocAttr,hcc,zal,zak,zaf,zap,zaj,zgn r hr,zb6 r hr,zah r hlt,hb1,hl1,hblt,wbo,zai,z97,znq,zsv,hs,hset,zag];simp only[bld,wb0,hbc,zzw,waf,wdb]
def zf3(n:Nat):Nat:=if(n<32/\n≠9/\n≠10)\/(127<=n/\n<160)then 65533 else n
theorem z99(n:Nat):evW code lib 54 [.flat (.int .i32 n)] [] []=some ([.flat (.int .i32 (zf3 n:Nat))],false,[],[]):=by
 refine zab zyj (qa rfl) ?_;unfold zf3;by_cases h1:n<32
 ·have h1':(n:Int)<32:=by omega
  by_cases h2:n=9
  ·subst h2;simp only[go_sem,simprocAttr]
  ·have h2':¬(n:Int)=9:=by omega
   by_cases h3:n=10
   ·subst h3;simp only[go_sem,simprocAttr]
   ·have h3':¬(n:Int)=10:=by omega
    rw[if_pos (.inl ⟨h1,h2,h3⟩)];simp only[go_sem,simprocAttr,h1',h2',h3',zjs]
 ·have h1':¬(n:Int)<32:=by omega
  by_cases h4:127<=n
  ·have h4':(127:Int)<=n:=by omega
   by_cases h5:n<160
   ·have h5':(n:Int)<160:=by omega
    rw[if_pos (.inr ⟨h4,h5⟩)];simp only[go_sem,simprocAttr,h1',h4',h5',zjs]
   ·have h5':¬(n:Int)<160:=by omega
    rw[if_neg (by omega)];simp only[go_sem,simprocAttr,h1',h4',h5']
  ·have h4':¬(127:Int)<=n:=by omega
   rw[if_neg (by omega)];simp only[go_sem,simprocAttr,h1',h4']
theorem ze4(n:Nat):(za7 n).length<=4:=by
 unfold za7 zea;rw[wbt];generalize (if isN n=true then n else 65533)=m
 repeat' split
 all_goals simp
theorem z44{n:Nat}(h:n<8388608):zf3 n<2147483648:=by unfold zf3;split<;>omega
structure CSt where
 at_:Nat
 u:Bool
 out:Str
def zhk(l:Str)(q:Nat×Nat)(k:Nat):Bool:=decide (q.1=13/\l[k+q.2]?=some 10)
def zgq(l:Str)(a:CSt)(q:Nat×Nat):CSt×Bool:=
 if zhk l q a.at_ then(⟨a.at_+q.2,a.u,a.out⟩,true)else(⟨a.at_+q.2,true,a.out++za7 (zf3 (if q.1=13 then 10 else q.1))⟩,true)
def bxC(l:Str)(a:CSt):zae:=[(9,[.flat (.string (S l))]),(59,bld a.u 1 a.out []),(3,[.flat (.int .i64 (a.at_:Nat))]),(9,[.flat (.string (S l))]),(0,[.lp 31 0 .ready [1,3,4] [.ptr 0 0,.ptr 1 0,.ptr 2 0]])]
theorem z7y(HB:zgp lib)(l:Str)(hl:l.length<1000000000)(a:CSt)(q:Nat×Nat)(ha:a.at_+q.2<=l.length)(ho:a.out.length+4<=bound)(h1:q.1<8388608):
 evW code lib yldF [.yld 4,.flat (.int .i32 (q.1:Nat)),.flat (.int .i64 (q.2:Nat))] (bxC l a) [.cell 1 1]=some ([.flat (.bool true)],false,bxC l (zgq l a q).1,[.cell 1 1]):=by
 refine zks zol zpn rfl rfl rfl ?_;have w1:IntKind.i64.wrap ((a.at_:Int)+(q.2:Nat))=((a.at_+q.2:Nat):Int):=wrap64 (by omega);have sh:=fun n=>z99 (lib:=lib) n
 have sh10:evW code lib 54 [.flat (.int .i32 10)] [] []=some ([.flat (.int .i32 (zf3 10:Nat))],false,[],[]):=z99 10;have by_:=fun n(h:n<2147483648)=>z19 (lib:=lib) n h
 have hl0:liesB 59 (2+([]:List PV).length):=zzz
 have ws:∀(m:Str),m.length<=4->evW code lib 47 [.ptr 1 0,.flat (.string (S m))] [(9,[.flat (.string (S l))]),(59,bld a.u 1 a.out []),(3,[.flat (.int .i64 ((a.at_+q.2:Nat):Int))]),(9,[.flat (.string (S l))]),(0,[.lp 31 0 .busy [1,3,4] [.ptr 0 0,.ptr 1 0,.ptr 2 0]])] [.cell 1 1]=
  some ([.flat (.int .i64 m.length),.flat .nilIface],false,[(9,[.flat (.string (S l))]),(59,bld true 1 (a.out++m) []),(3,[.flat (.int .i64 ((a.at_+q.2:Nat):Int))]),(9,[.flat (.string (S l))]),(0,[.lp 31 0 .busy [1,3,4] [.ptr 0 0,.ptr 1 0,.ptr 2 0]])],[.cell 1 1]):=fun m hm=>
  zxd HB (b:=1) (r:=[]) (rest:=[]) rfl hl0 (by omega) (fun q hq=>by cases hq) (fun q hq=>by cases hq)
 by_cases c1:q.1=13
 ·have c1':((q.1:Nat):Int)=13:=by omega
  have sb:=by_ (zf3 10) (z44 (by omega));have wm:=ws _ (ze4 (zf3 10));by_cases c2:a.at_+q.2<l.length
  ·have c2':((a.at_+q.2:Nat):Int)<l.length:=by omega
   obtain⟨c,hc⟩:∃c,l[a.at_+q.2]?=some c:=⟨_,qe c2⟩;have z0:(0:Int)<=((a.at_+q.2:Nat):Int):=by omega
   by_cases c3:c=10
   ·subst c3
    have hu:zhk l q a.at_=true:=by simp[zhk,c1,hc]
    have c3':(((10:UInt8).toNat:Nat):Int)=10:=rfl;simp only[zge,zgf,bxC,zgq,hu,c1',c2',c3',z0,w1,hc,zai,zdo,za3,wdq,go_sem,simprocAttr]
   ·have hu:zhk l q a.at_=false:=by simp[zhk,hc,c3]
    have c3':¬((c.toNat:Nat):Int)=10:=fun h=>by
     have h9:c.toNat=(10:UInt8).toNat:=by have:(10:UInt8).toNat=10:=rfl;omega
     exact c3 (wdv.1 h9)
    simp only[zge,zgf,bxC,zgq,hu,c1,c1',c2',c3',z0,w1,hc,zai,zdo,za3,wdq,sh10,sb,wm,go_sem,simprocAttr]
  ·have c2':¬((a.at_+q.2:Nat):Int)<l.length:=by omega
   have hn:l[a.at_+q.2]?=none:=wb8 (by omega);have hu:zhk l q a.at_=false:=by simp[zhk,hn]
   simp only[zge,zgf,bxC,zgq,hu,c1,c1',c2',w1,zai,sh10,sb,wm,go_sem,simprocAttr]
 ·have c1':¬((q.1:Nat):Int)=13:=by omega
  have hu:zhk l q a.at_=false:=by simp[zhk,c1]
  have sb:=by_ (zf3 q.1) (z44 h1);have wm:=ws _ (ze4 (zf3 q.1));simp only[zge,zgf,bxC,zgq,hu,c1,c1',w1,sh,sb,wm,go_sem,simprocAttr]
theorem z7z(l:Str)(a:CSt)(q:Nat×Nat):(zgq l a q).2=true:=by unfold zgq;split<;>rfl
theorem z2b(l:Str)(a:CSt)(q:Nat×Nat):(zgq l a q).1.at_=a.at_+q.2:=by unfold zgq;split<;>rfl
theorem z45(l:Str)(a:CSt)(q:Nat×Nat):(zgq l a q).1.out.length<=a.out.length+4:=by
 unfold zgq;split
 ·dsimp only;omega
 ·have:=ze4 (zf3 (if q.1=13 then 10 else q.1))
  dsimp only;rw[wb0];omega
theorem yni{u:Bool}{b nb:Nat}{l:Str}{rest:List PV}(h:b<nb)(hr:lows nb rest=true):lows nb (bld u b l rest)=true:=by
 cases u<;>simp[bld,lows,PV.low,zsw,hr,h]
def endC(l:Str):CSt:=(zg7 (zgq l) ⟨0,false,[]⟩ (zds l)).1
def zgu(l:Str):Str:=(endC l).out
theorem z2c(HB:zgp lib)(l:Str)(hl:l.length<1000000000):evW code lib 31 [.flat (.string (S l))] [] []=some ([.flat (.string (S (zgu l)))],false,[],[]):=by
 refine zab zpn (qa rfl) ?_
 have hrun:=z7u (lib:=lib) l (by unfold Sm;omega) (bxC l) (fun _=>[(1,1)]) (zgq l) (fun a k=>a.at_=k/\a.out.length<=4* k) 4 3 5 (fun a _ _=>rfl) (fun a=>rfl) (fun a q hq=>by simp at hq;subst hq;decide)
  (fun a k q ha _ _ h1 _ _=>by
    have h2:=z45 l a q;refine⟨by rw[z2b,ha.1],by omega⟩)
  (fun a k q ha _ _ h1 h2 _=>by
    have h3:=z7y HB l hl a q (by rw[ha.1];exact h1) (by unfold bound;omega) h2;rw[z7z];exact h3) ⟨0,false,[]⟩ ⟨rfl,wa7 _⟩
 have hc:cl [(1,1)]=[.cell 1 1]:=rfl;have he:(zg7 (zgq l) ⟨0,false,[]⟩ (zds l)).1=endC l:=rfl;simp only[hc,he]at hrun;have hrun2:evW code lib 102 [.yld 4,.ptr 3 0] [(9,[.flat (.string (S l))]),(59,[.flat (.pointer none),.slc 0 []]),(3,[.flat (.int .i64 0)]),(9,[.flat (.string (S l))]),(0,[.lp 31 0 .ready [1,3,4] [.ptr 0 0,.ptr 1 0,.ptr 2 0]])] [.cell 1 1]=some ([],false,bxC l (endC l),[.cell 1 1]):=hrun;have e1:=yg1 (lib:=lib) l [(9,[.flat (.string (S l))]),(59,[.flat (.pointer none),.slc 0 []]),(3,[.flat (.int .i64 0)])] [(1,1)] (by simp);simp only[hc,go_sem,simprocAttr]at e1;have e2:=z7v (lib:=lib) l [];simp only[go_sem,simprocAttr]at e2
 have e3:evW code lib 28 [.ptr 1 0] [(9,[.flat (.string (S l))]),(59,bld (endC l).u 1 (endC l).out []),(3,[.flat (.int .i64 ((endC l).at_:Nat))]),(9,[.flat (.string (S l))])] [.cell 1 1]=
  some ([.flat (.string (S (endC l).out))],false,[(9,[.flat (.string (S l))]),(59,bld (endC l).u 1 (endC l).out []),(3,[.flat (.int .i64 ((endC l).at_:Nat))]),(9,[.flat (.string (S l))])],zer (.cell 1 1) [.cell 1 1]):=ycv HB rfl (by simp)
 have b4:lows 4 (bld (endC l).u 1 (endC l).out [])=true:=yni (by omega) rfl;simp only[go_sem,simprocAttr,e1,e2,hrun2,bxC,e3,b4,zgu]
theorem zvb(n:Nat):evW code lib 146 [.flat (.int .i64 n)] [] []=some ([.flat (.bool (isN n))],false,[],[]):=by
 refine zab z15 (qa rfl) ?_;have h0:(0:Int)<=n:=by omega
 have h2':((n:Int)<=1114111)=(n<=1114111):=by apply propext;omega
 have h3':((55296:Int)<=n)=(55296<=n):=by apply propext;omega
 have h4':((n:Int)<=57343)=(n<=57343):=by apply propext;omega
 by_cases h2:n<=1114111<;>by_cases h3:55296<=n<;>by_cases h4:n<=57343
 all_goals
  have e3:decide (n<55296)=!decide (55296<=n):=by by_cases h:55296<=n<;>simp[h]<;>omega
  have e4:decide (57343<n)=!decide (n<=57343):=by by_cases h:n<=57343<;>simp[h]<;>omega
  simp only[go_sem,simprocAttr,isN,e3,e4,h0,h2',h3',h4',h2,h3,h4,wdo,wcx,wdw,wdx]
theorem zk2(n:Nat):evW code lib 91 [.flat (.int .i64 n)] [] []=some ([.flat (.string (S (za7 n)))],false,[],[]):=by
 refine zab zyq (qa rfl) ?_;have i1:=zvb (lib:=lib) n;cases hi:isN n with
 |true=>
  rw[hi]at i1;have hle:n<=1114111:=by simp only[isN,wb1,decide_eq_true_eq]at hi;exact hi.1
  have c1:((n:Int)<65536)=(n<65536):=by apply propext;omega
  have c2:((n:Int)<2048)=(n<2048):=by apply propext;omega
  have c3:((n:Int)<128)=(n<128):=by apply propext;omega
  have d1:IntKind.i64.wrap ((n:Int).tdiv 64)=((n/64:Nat):Int):=by
   rw[show(n:Int).tdiv 64=((n/64:Nat):Int)from rfl];exact wrap64 (by omega)
  have d2:IntKind.i64.wrap ((n:Int).tdiv 4096)=((n/4096:Nat):Int):=by
   rw[show(n:Int).tdiv 4096=((n/4096:Nat):Int)from rfl];exact wrap64 (by omega)
  have d3:IntKind.i64.wrap ((n:Int).tdiv 262144)=((n/262144:Nat):Int):=by
   rw[show(n:Int).tdiv 262144=((n/262144:Nat):Int)from rfl];exact wrap64 (by omega)
  have m0:∀m:Nat,((m:Int).tmod 64)=((m % 64:Nat):Int):=fun m=>rfl
  have p128:∀m:Nat,m<64->IntKind.i64.wrap (128+(m:Int))=((128+m:Nat):Int):=fun m h=>by rw[wrap64 (by omega)];rfl
  have p192:∀m:Nat,m<64->IntKind.i64.wrap (192+(m:Int))=((192+m:Nat):Int):=fun m h=>by rw[wrap64 (by omega)];rfl
  have p224:∀m:Nat,m<64->IntKind.i64.wrap (224+(m:Int))=((224+m:Nat):Int):=fun m h=>by rw[wrap64 (by omega)];rfl
  have p240:∀m:Nat,m<64->IntKind.i64.wrap (240+(m:Int))=((240+m:Nat):Int):=fun m h=>by rw[wrap64 (by omega)];rfl
  have w8:∀m:Nat,m<256->IntKind.u8.wrap (m:Int)=(m:Int):=fun m h=>zsl (by omega)
  simp only[za7,hi,if_true,zea];by_cases h1:n<128
  ·rw[if_pos h1]
   simp(disch:=omega) only[go_sem,simprocAttr,i1,c3,h1,w8,zd9,zey,mk_S,wax,wc7]
  ·rw[if_neg h1]
   by_cases h2:n<2048
   ·rw[if_pos h2]
    simp(disch:=omega) only[go_sem,simprocAttr,i1,c3,h1,c2,h2,d1,m0,p128,p192,w8,zd9,zey,mk_S,wax,wc7]
   ·rw[if_neg h2]
    by_cases h3:n<65536
    ·rw[if_pos h3]
     simp(disch:=omega) only[go_sem,simprocAttr,i1,c3,h1,c2,h2,c1,h3,d1,d2,m0,p128,p224,w8,zd9,zey,mk_S,wax,wc7]
    ·rw[if_neg h3]
     simp(disch:=omega) only[go_sem,simprocAttr,i1,c3,h1,c2,h2,c1,h3,d1,d2,d3,m0,p128,p240,w8,zd9,zey,mk_S,wax,wc7]
 |false=>
  rw[hi]at i1;have hb:za7 n=[239,191,189]:=by unfold za7;rw[hi];simp only[wbf,if_false];decide
  have e0:evC (evW code lib)=evC (evW code lib):=rfl;have k1:IntKind.i64.wrap ((65533:Int).tdiv 4096)=15:=by decide
  have k2:IntKind.i64.wrap ((65533:Int).tdiv 64)=1023:=by decide
  have k3:(1023:Int).tmod 64=63:=by decide
  have k4:(65533:Int).tmod 64=61:=by decide
  have k5:IntKind.i64.wrap 239=239:=by decide
  have k6:IntKind.i64.wrap 191=191:=by decide
  have k7:IntKind.i64.wrap 189=189:=by decide
  have k8:IntKind.u8.wrap 239=239:=by decide
  have k9:IntKind.u8.wrap 191=191:=by decide
  have ka:IntKind.u8.wrap 189=189:=by decide
  have kc:IntKind.i64.wrap 15=15:=by decide
  have kd:IntKind.i64.wrap 1023=1023:=by decide
  have kb:bytesOf [.flat (.int .u8 239),.flat (.int .u8 191),.flat (.int .u8 189)]=some [239,191,189]:=by decide
  simp only[go_sem,simprocAttr,i1,hb,k1,k2,k3,k4,k5,k6,k7,k8,k9,ka,kc,kd,kb,mk_S]
def zut:Nat->Int
 |2=>192
 |3=>224
 |4=>240
 |_=>0
def zN(l:Str)(k:Nat):Nat->Int
 |0=>0
 |1=>((l.getD 0 0).toNat:Int) - zut k
 |i+2=>64* zN l k (i+1)+((l.getD (i+1) 0).toNat:Int) - 128
theorem yp6(k:Nat):0<=zut k/\zut k<=240:=by unfold zut;split<;>omega
theorem zN_b(l:Str)(k:Nat):∀i,i<=4->-400000000<=zN l k i/\zN l k i<=400000000:=by
 intro i hi;have hb:=yp6 k;have b0:=(l.getD 0 0).toNat_lt;have b1:=(l.getD 1 0).toNat_lt;have b2:=(l.getD 2 0).toNat_lt;have b3:=(l.getD 3 0).toNat_lt
 match i,hi with
 |0,_=>simp[zN]
 |1,_=>simp only[zN];omega
 |2,_=>simp only[zN,wbx,Nat.reduceAdd];omega
 |3,_=>simp only[zN,wbx,Nat.reduceAdd];omega
 |4,_=>simp only[zN,wbx,Nat.reduceAdd];omega
def zk3:List PV:=[.flat (.int .i64 0),.flat (.int .i64 0),.flat (.int .i64 192),.flat (.int .i64 224),.flat (.int .i64 240)]
def z71(s:Str)(at_ k:Nat)(i:Nat):St:=⟨[(0,.flat (.string (S s))),(1,.flat (.int .i64 (at_:Nat))),(6,.slc 5 zk3),(7,.flat (.int .i64 (k:Nat))),(8,.flat (.int .i64 (zN (s.drop at_) k i))),(9,.flat (.int .i64 (i:Nat)))],[.slot 6],[],[]⟩
theorem yaa(s:Str)(at_ i:Nat)(h:i<(s.drop at_).length):s[at_+i]?=some ((s.drop at_).getD i 0):=by
 rw[wca,wal];rw[wbc]at h;rw[qe (by omega)];rfl
theorem yuo(s:Str)(at_ k:Nat)(hs:Sm s)(hk:k<=4)(hl:k<=(s.drop at_).length)(i:Nat)(h1:1<=i)(h2:i<=k):zcn (evC (evW code lib) big znd) [0,1,6,7,8,9] 0 big (z71 s at_ k i)=
 some (.exit 2,⟨[(0,.flat (.string (S s))),(1,.flat (.int .i64 (at_:Nat))),(6,.slc 5 zk3),(7,.flat (.int .i64 (k:Nat))),(8,.flat (.int .i64 (zN (s.drop at_) k k)))],[.slot 6],[],[]⟩):=by
 have hat:at_+k<=s.length:=by
  rw[wbc]at hl;rcases wcn s.length at_ with h|h<;>omega
 unfold Sm at hs;refine zfd (z71 s at_ k) (fun i=>1<=i/\i<=k) (fun i=>k - i) (fun _=>(.exit 2,⟨[(0,.flat (.string (S s))),(1,.flat (.int .i64 (at_:Nat))),(6,.slc 5 zk3),(7,.flat (.int .i64 (k:Nat))),(8,.flat (.int .i64 (zN (s.drop at_) k k)))],[.slot 6],[],[]⟩)) (fun i ⟨h1,h2⟩=>?_) ⟨h1,h2⟩ (by unfold big;omega);by_cases hlt:i<k
 ·right
  have e1:=yaa s at_ i (by omega);obtain⟨c,hc⟩:∃c,(s.drop at_).getD i 0=c:=⟨_,rfl⟩;rw[hc]at e1;have hcb:=c.toNat_lt;have hz:=zN_b (s.drop at_) k i (by omega);have hzs:zN (s.drop at_) k (i+1)=64* zN (s.drop at_) k i+(c.toNat:Int) - 128:=by
   obtain⟨j,rfl⟩:∃j,i=j+1:=⟨i - 1,by omega⟩;simp only[zN,hc]
  obtain⟨z,hzz⟩:∃z,zN (s.drop at_) k i=z:=⟨_,rfl⟩;rw[hzz]at hz hzs;have c1:(i:Int)<k:=by omega
  have w1:IntKind.i64.wrap (64* z)=64* z:=wrap64 (by omega);have w2:IntKind.i64.wrap (c.toNat:Int)=(c.toNat:Int):=wrap64 (by omega);have w3:IntKind.i64.wrap (64* z+(c.toNat:Int))=64* z+(c.toNat:Int):=wrap64 (by omega);have w4:IntKind.i64.wrap (64* z+(c.toNat:Int) - 128)=64* z+(c.toNat:Int) - 128:=wrap64 (by omega);have w5:IntKind.i64.wrap ((at_:Int)+(i:Nat))=((at_+i:Nat):Int):=wrap64 (by omega);have w6:IntKind.i64.wrap ((i:Int)+1)=((i+1:Nat):Int):=wrap64 (by omega);have h0:(0:Int)<=((at_+i:Nat):Int):=by omega
  refine⟨⟨[(0,.flat (.string (S s))),(1,.flat (.int .i64 (at_:Nat))),(6,.slc 5 zk3),(7,.flat (.int .i64 (k:Nat))),(8,.flat (.int .i64 (64* z+(c.toNat:Int) - 128))),(9,.flat (.int .i64 ((i+1:Nat):Int)))],[.slot 6],[],[]⟩,i+1,?_,?_,⟨by omega,by omega⟩,by omega,rfl⟩
  ·simp only[zrj,z71,hzz,go_sem,simprocAttr,c1,zdo,wdq,h0,e1,za3,w1,w2,w3,w4,w5,w6]
  ·rw[show z71 s at_ k (i+1)=_ from rfl]
   simp only[z71,hzs,go_sem,simprocAttr]
 ·left
  obtain rfl:i=k:=by omega
  have c1:¬(i:Int)<i:=by omega
  refine⟨.exit 2,_,?_,by simp,rfl⟩;simp only[zrj,z71,go_sem,simprocAttr,c1]
def tryN(l:Str)(k:Nat):Bool:=decide (0<=zN l k k)&&(isN (zN l k k).toNat&&decide (za7 (zN l k k).toNat=l.take k))
def zrt(l:Str):Nat->Nat->Option Nat
 |0,_=>none
 |n+1,k=>if k<=4/\k<=l.length then(if tryN l k then some k else zrt l n (k+1))else none
theorem ynj(k:Nat)(h:k<=4):zk3.drop k=.flat (.int .i64 (zut k))::zk3.drop (k+1):=by
 match k,h with
 |0,_=>rfl
 |1,_=>rfl
 |2,_=>rfl
 |3,_=>rfl
 |4,_=>rfl
def zs0(s:Str)(at_ k:Nat):St:=⟨[(0,.flat (.string (S s))),(1,.flat (.int .i64 (at_:Nat))),(6,.slc 5 zk3),(7,.flat (.int .i64 (k:Nat)))],[.slot 6],[],[]⟩
def resO(l:Str)(k:Nat):Out×St:=match zrt l (5 - k) k with
 |some j=>(.ret,⟨[(4,.flat (.int .i64 (zN l j j))),(5,.flat (.int .i64 (j:Nat)))],[],[],[]⟩)
 |none=>(.exit 0,⟨[],[],[],[]⟩)
theorem ynk(s:Str)(at_:Nat)(hs:Sm s)(hat:at_<s.length):zcn (evC (evW code lib) big znf) [0,1,6,7] 0 big (zs0 s at_ 1)=some (resO (s.drop at_) 1):=by
 have hll:(s.drop at_).length=s.length - at_:=wbc;refine zfd (zs0 s at_) (fun k=>1<=k/\k<=5) (fun k=>5 - k) (resO (s.drop at_)) (fun k ⟨h1,h2⟩=>?_) ⟨wab _,by omega⟩ (by unfold big;omega);have hs':=hs;unfold Sm at hs';have wl:IntKind.i64.wrap ((s.length:Int) - (at_:Nat))=(s.length:Int) - (at_:Nat):=wrap64 (by omega);by_cases hk:k<=4/\k<=(s.drop at_).length
 ·have hf:zrt (s.drop at_) (5 - k) k=if tryN (s.drop at_) k then some k else zrt (s.drop at_) (5 - (k+1)) (k+1):=by
   obtain⟨j,hj⟩:∃j,5 - k=j+1:=⟨4 - k,by omega⟩;rw[hj,show 5 - (k+1)=j by omega];simp only[zrt];rw[if_pos hk]
  have hin:=yuo (lib:=lib) s at_ k hs hk.1 hk.2 1 (wab _) h1;have e0:=yaa s at_ 0 (by omega);rw[wa6]at e0;have hz1:zN (s.drop at_) k 1=(((s.drop at_).getD 0 0).toNat:Int) - zut k:=rfl;have hzk:=zN_b (s.drop at_) k k hk.1;obtain⟨c,hc⟩:∃c,(s.drop at_).getD 0 0=c:=⟨_,rfl⟩;have hcb:=c.toNat_lt;have hlb:=yp6 k;rw[hc]at e0 hz1;simp only[z71,n1,hz1]at hin;have c1:(k:Int)<=4:=by omega
  have c2:(k:Int)<=(s.length:Int) - (at_:Nat):=by omega
  have c3:(0:Int)<=(k:Nat):=by omega
  have c4:(k:Int)<5:=by omega
  have c9:1<=(zk3.drop (k+1)).length+1:=by omega
  have c5:(0:Int)<=(at_:Nat):=by omega
  have c6:(at_:Int)<=((at_+k:Nat):Int):=by omega
  have c7:((at_+k:Nat):Int)<=s.length:=by omega
  have c8:(0:Int)<=((at_+k:Nat):Int):=by omega
  have w2:IntKind.i64.wrap (c.toNat:Int)=(c.toNat:Int):=wrap64 (by omega);have w3:IntKind.i64.wrap ((c.toNat:Int) - zut k)=(c.toNat:Int) - zut k:=wrap64 (by omega);have w4:IntKind.i64.wrap ((at_:Int)+(k:Nat))=((at_+k:Nat):Int):=wrap64 (by omega);have w5:IntKind.i64.wrap ((k:Int)+1)=((k+1:Nat):Int):=wrap64 (by omega);have hd:=ynj k hk.1;have htk:(s.take (at_+k)).drop at_=(s.drop at_).take k:=by rw[List.take_drop]
  obtain⟨z,hz⟩:∃z,zN (s.drop at_) k k=z:=⟨_,rfl⟩;have hfin:tryN (s.drop at_) k=false->resO (s.drop at_) (k+1)=resO (s.drop at_) k:=fun h=>by
   unfold resO;rw[hf,h];rfl
  have htr:tryN (s.drop at_) k=(decide (0<=z)&&(isN z.toNat&&decide (za7 z.toNat=(s.drop at_).take k))):=by unfold tryN;rw[hz]
  rw[hz]at hin;by_cases hz0:0<=z
  ·obtain⟨m,hm⟩:∃m:Nat,z=(m:Int):=⟨z.toNat,by omega⟩
   have r1:=zvb (lib:=lib) m;have r2:=zk2 (lib:=lib) m;rw[hm]at hin hz0 htr;simp only[wdq]at htr;cases hi:isN m with
   |true=>
    rw[hi]at r1 htr;by_cases he:za7 m=(s.drop at_).take k
    ·left
     have ht:tryN (s.drop at_) k=true:=by rw[htr];simp[hz0,he]
     refine⟨.ret,⟨[(4,.flat (.int .i64 (m:Int))),(5,.flat (.int .i64 (k:Nat)))],[],[],[]⟩,?_,by simp,by unfold resO;rw[hf,if_pos ht];simp only[hz,hm]⟩;simp only[ze2,zs0,go_sem,simprocAttr,c1,c2,c3,c4,c5,c6,c7,c8,c9,wl,zai,zdo,wdq,e0,za3,w2,w3,w4,hd,hin,hz0,r1,r2,zi7,htk,zrs,he]
    ·right
     have ht:tryN (s.drop at_) k=false:=by rw[htr];simp[he]
     refine⟨⟨[(0,.flat (.string (S s))),(1,.flat (.int .i64 (at_:Nat))),(6,.slc 5 zk3),(7,.flat (.int .i64 ((k+1:Nat):Int)))],[.slot 6],[],[]⟩,k+1,?_,?_,⟨by omega,by omega⟩,by omega,hfin ht⟩
     ·simp only[ze2,zs0,go_sem,simprocAttr,c1,c2,c3,c4,c5,c6,c7,c8,c9,wl,zai,zdo,wdq,e0,za3,w2,w3,w4,w5,hd,hin,hz0,r1,r2,zi7,htk,zrs,he]
     ·simp only[zs0,go_sem,simprocAttr]
   |false=>
    rw[hi]at r1 htr;right;have ht:tryN (s.drop at_) k=false:=by rw[htr];simp
    refine⟨⟨[(0,.flat (.string (S s))),(1,.flat (.int .i64 (at_:Nat))),(6,.slc 5 zk3),(7,.flat (.int .i64 ((k+1:Nat):Int)))],[.slot 6],[],[]⟩,k+1,?_,?_,⟨by omega,by omega⟩,by omega,hfin ht⟩
    ·simp only[ze2,zs0,go_sem,simprocAttr,c1,c2,c3,c4,c5,c6,c7,c8,c9,wl,zai,zdo,wdq,e0,za3,w2,w3,w4,w5,hd,hin,hz0,r1]
    ·simp only[zs0,go_sem,simprocAttr]
  ·right
   have ht:tryN (s.drop at_) k=false:=by rw[htr];simp[hz0]
   refine⟨⟨[(0,.flat (.string (S s))),(1,.flat (.int .i64 (at_:Nat))),(6,.slc 5 zk3),(7,.flat (.int .i64 ((k+1:Nat):Int)))],[.slot 6],[],[]⟩,k+1,?_,?_,⟨by omega,by omega⟩,by omega,hfin ht⟩
   ·simp only[ze2,zs0,go_sem,simprocAttr,c1,c2,c3,c4,c5,c6,c7,c8,c9,wl,zai,zdo,wdq,e0,za3,w2,w3,w4,w5,hd,hin,hz0]
   ·simp only[zs0,go_sem,simprocAttr]
 ·left
  have hf:zrt (s.drop at_) (5 - k) k=none:=by
   cases hj:5 - k with
   |zero=>rfl
   |succ j=>simp only[zrt];rw[if_neg hk]
  refine⟨.exit 0,⟨[],[],[],[]⟩,?_,by simp,by unfold resO;rw[hf]⟩;by_cases c1:k<=4
  ·have c1':(k:Int)<=4:=by omega
   have c2':¬(k:Int)<=(s.length:Int) - (at_:Nat):=by omega
   simp only[ze2,zs0,go_sem,simprocAttr,c1',c2',wl,zai]
  ·have c1':¬(k:Int)<=4:=by omega
   simp only[ze2,zs0,go_sem,simprocAttr,c1']
theorem zxe{l:Str}:∀{n k j:Nat},zrt l n k=some j->tryN l j=true/\j<=4/\j<=l.length/\k<=j
 |0,k,j,h=>by cases h
 |n+1,k,j,h=>by
  simp only[zrt]at h;split at h
  ·rename_i hk
   split at h
   ·rename_i ht;cases h;exact⟨ht,hk.1,hk.2,wab _⟩
   ·obtain⟨h1,h2,h3,h4⟩:=zxe h
    exact⟨h1,h2,h3,by omega⟩
  ·cases h
def refU(l:Str):Nat×Nat:=match l with
 |[]=>(0,0)
 |_=>match zrt l 4 1 with
  |some j=>((zN l j j).toNat,j)
  |none=>(65533,1)
theorem ynl(s:Str)(at_:Nat)(hs:Sm s)(hat:at_<=s.length):evW code lib 90 [.flat (.string (S s)),.flat (.int .i64 (at_:Nat))] [] []=some ([.flat (.int .i64 ((refU (s.drop at_)).1:Nat)),.flat (.int .i64 ((refU (s.drop at_)).2:Nat))],false,[],[]):=by
 refine zab z14 (qa rfl) ?_;have c0:¬(at_:Int)<0:=by omega
 by_cases hlt:at_<s.length
 ·have c1:¬(s.length:Int)<=(at_:Nat):=by omega
  have ho:=ynk (lib:=lib) s at_ hs hlt;have hne:∃c t,s.drop at_=c::t:=⟨s[at_],s.drop (at_+1),wcm hlt⟩;obtain⟨c,t,hct⟩:=hne;cases hf:zrt (s.drop at_) 4 1 with
  |some j=>
   obtain⟨h1,_⟩:=zxe hf;have hz:0<=zN (s.drop at_) j j:=by
    unfold tryN at h1;simp only[wb1,decide_eq_true_eq]at h1;exact h1.1
   have hr:refU (s.drop at_)=((zN (s.drop at_) j j).toNat,j):=by
    rw[hct]at hf⊢;simp only[refU,hf]
   have hz2:(((zN (s.drop at_) j j).toNat:Nat):Int)=zN (s.drop at_) j j:=by omega
   have hres:resO (s.drop at_) 1=(.ret,⟨[(4,.flat (.int .i64 (zN (s.drop at_) j j))),(5,.flat (.int .i64 (j:Nat)))],[],[],[]⟩):=by
    unfold resO;rw[show 5 - 1=4 from rfl,hf]
   rw[hres]at ho;simp only[zs0,zk3,n1]at ho;rw[hr];dsimp only;rw[hz2];simp only[go_sem,simprocAttr,c0,c1,zai,ho]
  |none=>
   have hr:refU (s.drop at_)=(65533,1):=by
    rw[hct]at hf⊢;simp only[refU,hf]
   have hres:resO (s.drop at_) 1=(.exit 0,⟨[],[],[],[]⟩):=by
    unfold resO;rw[show 5 - 1=4 from rfl,hf]
   rw[hres]at ho;simp only[zs0,zk3,n1]at ho;rw[hr];simp only[go_sem,simprocAttr,c0,c1,zai,ho,n1,zjs]
 ·have c1:(s.length:Int)<=(at_:Nat):=by omega
  have hr:refU (s.drop at_)=(0,0):=by rw[List.drop_eq_nil_of_le (by omega)];rfl
  rw[hr];simp only[go_sem,simprocAttr,c0,c1,zai,n0]
end Nun
namespace Nun
open Go Go.RowKit Go.Proofs Go.Proofs.YtmpiobfdchlikaaGreatDoor
theorem b8(n:Nat)(h:n<256):(UInt8.ofNat n).toNat=n:=by rw[UInt8.toNat_ofNat'];omega
theorem y0n{n:Nat}(h:isN n=true):n<=1114111:=by simp only[isN,wb1,decide_eq_true_eq]at h;exact h.1
theorem dec_of(n:Nat)(hi:isN n=true)(t:Str):decU ((zea n).map UInt8.ofNat++t)=(n,(zea n).length):=by
 have hle:=y0n hi;unfold zea;by_cases h1:n<128
 ·simp only[h1,if_true,wax,wc7,wai,wa5,waf,wdb]
  simp only[decU,b8 n (by omega)];rw[if_pos h1]
 ·by_cases h2:n<2048
  ·simp only[h1,h2,if_true,if_false,wax,wc7,wai,wa5,waf,wdb]
   simp only[decU,b8 (192+n/64) (by omega)];rw[if_neg (by omega),if_pos (by omega)];have hg:goU (UInt8.ofNat (128+n % 64)::t) (192+n/64 - 192) 1=(n,true):=by
    simp only[goU,b8 (128+n % 64) (by omega)];rw[if_pos (by omega)];exact Prod.ext (by show _=n;omega) rfl
   unfold finU;rw[hg,if_pos ⟨rfl,by dsimp only;omega,hi⟩]
  ·by_cases h3:n<65536
   ·simp only[h1,h2,h3,if_true,if_false,wax,wc7,wai,wa5,waf,wdb]
    simp only[decU,b8 (224+n/4096) (by omega)];rw[if_neg (by omega),if_neg (by omega),if_pos (by omega)];have hg:goU (UInt8.ofNat (128+n/64 % 64)::UInt8.ofNat (128+n % 64)::t) (224+n/4096 - 224) 2=(n,true):=by
     simp only[goU,b8 (128+n % 64) (by omega),b8 (128+n/64 % 64) (by omega)];rw[if_pos (by omega),if_pos (by omega)];exact Prod.ext (by show _=n;omega) rfl
    unfold finU;rw[hg,if_pos ⟨rfl,by dsimp only;omega,hi⟩]
   ·simp only[h1,h2,h3,if_false,wax,wc7,wai,wa5,waf,wdb]
    simp only[decU,b8 (240+n/262144) (by omega)];rw[if_neg (by omega),if_neg (by omega),if_neg (by omega),if_pos (by omega)];have hg:goU (UInt8.ofNat (128+n/4096 % 64)::UInt8.ofNat (128+n/64 % 64)::UInt8.ofNat (128+n % 64)::t) (240+n/262144 - 240) 3=(n,true):=by
     simp only[goU,b8 (128+n % 64) (by omega),b8 (128+n/64 % 64) (by omega),b8 (128+n/4096 % 64) (by omega)];rw[if_pos (by omega),if_pos (by omega),if_pos (by omega)];exact Prod.ext (by show _=n;omega) rfl
    unfold finU;rw[hg,if_pos ⟨rfl,by dsimp only;omega,hi⟩]
theorem yup{l:Str}{k:Nat}(h:tryN l k=true)(hk:k<=l.length):decU l=((zN l k k).toNat,k):=by
 unfold tryN at h;simp only[wb1,decide_eq_true_eq]at h;obtain⟨_,h2,h3⟩:=h;obtain⟨n,hn⟩:∃n,(zN l k k).toNat=n:=⟨_,rfl⟩;rw[hn]at h2 h3⊢;unfold za7 at h3;rw[if_pos h2]at h3;have hl:l=(zea n).map UInt8.ofNat++l.drop k:=by rw[h3,wc9]
 have hlen:k=(zea n).length:=by
  have:=congrArg List.length h3;rw[wbt,wa2]at this;omega
 rw[hl,dec_of n h2,hlen]
theorem of8(c:UInt8)(n:Nat)(h:c.toNat=n):UInt8.ofNat n=c:=by rw[<-h];exact UInt8.ofNat_toNat
theorem yuq(c:UInt8)(t:Str):decU (c::t)=(65533,1)\/∃k,1<=k/\k<=4/\k<=(c::t).length/\tryN (c::t) k=true:=by
 have hc:=c.toNat_lt;have good:∀n k:Nat,zN (c::t) k k=(n:Int)->isN n=true->za7 n=(c::t).take k->tryN (c::t) k=true:=fun n k h1 h2 h3=>by
  unfold tryN;rw[h1];simp only[wdq,h2,h3];simp
 simp only[decU];by_cases h1:c.toNat<128
 ·right
  refine⟨1,by omega,by omega,by simp,good c.toNat 1 ?_ ?_ ?_⟩
  ·simp only[zN,zut,wdy];omega
  ·simp only[isN,wb1,wcc,decide_eq_true_eq];omega
  ·have hi:isN c.toNat=true:=by simp only[isN,wb1,wcc,decide_eq_true_eq];omega
   unfold za7 zea;rw[if_pos hi,if_pos h1];simp[of8 c c.toNat rfl]
 ·rw[if_neg h1]
  by_cases h2:192<=c.toNat/\c.toNat<224
  ·rw[if_pos h2]
   unfold finU;split
   ·rename_i hg
    obtain⟨g1,g2,g3⟩:=hg;right
    match t,g1,g2,g3 with
    |b::t,g1,g2,g3=>
     simp only[goU]at g1 g2 g3;split at g1
     case isFalse=>cases g1
     rename_i hb;rw[if_pos hb]at g2 g3;dsimp only at g2 g3;obtain⟨n,hn⟩:∃n,(c.toNat - 192)* 64+(b.toNat - 128)=n:=⟨_,rfl⟩;rw[hn]at g2 g3;refine⟨2,by omega,by omega,by simp,good n 2 ?_ g3 ?_⟩
     ·simp only[zN,zut,wdy,List.getD_cons_succ,wbx];omega
     ·unfold za7 zea
      rw[if_pos g3,if_neg (by omega),if_pos (by omega)];simp[of8 c (192+n/64) (by omega),of8 b (128+n % 64) (by omega)]
   ·exact .inl rfl
  ·rw[if_neg h2]
   by_cases h3:224<=c.toNat/\c.toNat<240
   ·rw[if_pos h3]
    unfold finU;split
    ·rename_i hg
     obtain⟨g1,g2,g3⟩:=hg;right
     match t,g1,g2,g3 with
     |[b],g1,g2,g3=>simp only[goU]at g1;split at g1<;>cases g1
     |b::d::t,g1,g2,g3=>
      simp only[goU]at g1 g2 g3;split at g1
      case isFalse=>cases g1
      rename_i hb;rw[if_pos hb]at g2 g3;split at g1
      case isFalse=>cases g1
      rename_i hd;rw[if_pos hd]at g2 g3;dsimp only at g2 g3;obtain⟨n,hn⟩:∃n,((c.toNat - 224)* 64+(b.toNat - 128))* 64+(d.toNat - 128)=n:=⟨_,rfl⟩;rw[hn]at g2 g3;refine⟨3,by omega,by omega,by simp,good n 3 ?_ g3 ?_⟩
      ·simp only[zN,zut,wdy,List.getD_cons_succ,wbx,Nat.reduceAdd];omega
      ·unfold za7 zea
       rw[if_pos g3,if_neg (by omega),if_neg (by omega),if_pos (by omega)];simp[of8 c (224+n/4096) (by omega),of8 b (128+n/64 % 64) (by omega),of8 d (128+n % 64) (by omega)]
    ·exact .inl rfl
   ·rw[if_neg h3]
    by_cases h4:240<=c.toNat/\c.toNat<248
    ·rw[if_pos h4]
     unfold finU;split
     ·rename_i hg
      obtain⟨g1,g2,g3⟩:=hg;right
      match t,g1,g2,g3 with
      |[b],g1,g2,g3=>simp only[goU]at g1;split at g1<;>cases g1
      |[b,d],g1,g2,g3=>simp only[goU]at g1;split at g1<;>(try split at g1)<;>cases g1
      |b::d::e::t,g1,g2,g3=>
       simp only[goU]at g1 g2 g3;split at g1
       case isFalse=>cases g1
       rename_i hb;rw[if_pos hb]at g2 g3;split at g1
       case isFalse=>cases g1
       rename_i hd;rw[if_pos hd]at g2 g3;split at g1
       case isFalse=>cases g1
       rename_i he;rw[if_pos he]at g2 g3;dsimp only at g2 g3;obtain⟨n,hn⟩:∃n,(((c.toNat - 240)* 64+(b.toNat - 128))* 64+(d.toNat - 128))* 64+(e.toNat - 128)=n:=⟨_,rfl⟩;rw[hn]at g2 g3;refine⟨4,by omega,by omega,by simp,good n 4 ?_ g3 ?_⟩
       ·simp only[zN,zut,wdy,List.getD_cons_succ,wbx,Nat.reduceAdd];omega
       ·unfold za7 zea
        rw[if_pos g3,if_neg (by omega),if_neg (by omega),if_neg (by omega)];simp[of8 c (240+n/262144) (by omega),of8 b (128+n/4096 % 64) (by omega),of8 d (128+n/64 % 64) (by omega),of8 e (128+n % 64) (by omega)]
     ·exact .inl rfl
    ·rw[if_neg h4];exact .inl rfl
theorem zz0{l:Str}{j:Nat}(ht:tryN l j=true)(h4:j<=4)(hl:j<=l.length):∀n k,k<=j->j<k+n->zrt l n k≠none
 |0,k,h1,h2=>by omega
 |n+1,k,h1,h2=>by
  simp only[zrt];rw[if_pos ⟨by omega,by omega⟩];by_cases hk:tryN l k=true
  ·rw[if_pos hk];simp
  ·rw[if_neg hk]
   refine zz0 ht h4 hl n (k+1) ?_ (by omega);rcases wcn k j with h|h
   ·exact h
   ·exact absurd (by rw[show k=j by omega];exact ht) hk
theorem yur:∀l:Str,refU l=decU l
 |[]=>rfl
 |c::t=>by
  simp only[refU];cases hf:zrt (c::t) 4 1 with
  |some j=>
   obtain⟨h1,h2,h3,h4⟩:=zxe hf;exact(yup h1 h3).symm
  |none=>
   rcases yuq c t with h|⟨k,h1,h2,h3,h4⟩
   ·exact h.symm
   ·exact absurd hf (zz0 h4 h2 h3 4 1 h1 (by omega))
end Nun
namespace Nun
open Go Go.RowKit Go.Proofs Go.Proofs.YtmpiobfdchlikaaGreatDoor
variable {lib:Callee}
theorem yab(s:Str)(at_:Nat)(hs:Sm s)(hat:at_<=s.length):evW code lib 90 [.flat (.string (S s)),.flat (.int .i64 (at_:Nat))] [] []=some ([.flat (.int .i64 ((decU (s.drop at_)).1:Nat)),.flat (.int .i64 ((decU (s.drop at_)).2:Nat))],false,[],[]):=by
 rw[<-yur];exact ynl s at_ hs hat
theorem z73(l:Str)(k:Nat)(h:k<l.length):zds (l.drop k)=decU (l.drop k)::zds (l.drop (k+(decU (l.drop k)).2))/\1<=(decU (l.drop k)).2/\k+(decU (l.drop k)).2<=l.length/\(decU (l.drop k)).1<8388608/\(decU (l.drop k)).2<=4:=by
 obtain⟨c,t,ht⟩:∃c t,l.drop k=c::t:=⟨l[k],l.drop (k+1),wcm h⟩;have hsz:=zk1 c t;have hft:=z42 (l.drop k);rw[wbc]at hft;have hnum:(decU (l.drop k)).1<8388608:=zva _;have hr:zds (l.drop k)=decU (l.drop k)::zds (l.drop (k+(decU (l.drop k)).2)):=by
  rw[<-wbd,ht,zi9]
 rw[<-ht]at hsz;exact⟨hr,hsz.1,by omega,hnum,hsz.2⟩
theorem y0o(s:Str)(hsm:Sm s):evW code lib 88 [.flat (.string (S s))] [] []=some ([.flat (.bool (isU s))],false,[],[]):=by
 refine zab z7p (qa rfl) ?_;have hs:=hsm;unfold Sm at hs
 have hloop:=zfd (body:=evC (evW code lib) big zsn) (live:=[0,3]) (nb:=0) (fun k:Nat=>(⟨[(0,.flat (.string (S s))),(3,.flat (.int .i64 (k:Nat)))],[],[],[]⟩:St)) (fun k=>k<=s.length) (fun k=>s.length - k)
  (fun k=>if isU (s.drop k)then(.exit 0,⟨[],[],[],[]⟩)else(.ret,⟨[(2,.flat (.bool false))],[],[],[]⟩)) (fun k hk=>?_) (n:=big) (a:=0) (wa7 _) (by unfold big;omega)
 ·simp only[wc8,n0]at hloop
  cases hi:isU s with
  |true=>
   simp only[hi,if_true]at hloop;simp only[go_sem,simprocAttr,hloop]
  |false=>
   simp only[hi,wbf,if_false]at hloop;simp only[go_sem,simprocAttr,hloop]
 ·have e1:=yab (lib:=lib) s k hsm hk
  by_cases hlt:k<s.length
  ·obtain⟨hr,g1,g2,g3,g4⟩:=z73 s k hlt
   obtain⟨q,hq⟩:∃q,decU (s.drop k)=q:=⟨_,rfl⟩;rw[hq]at e1 hr g1 g2 g3 g4;have hi:isU (s.drop k)=(!badQ q&&isU (s.drop (k+q.2))):=by unfold isU;rw[hr,wcg]
   have c1:(k:Int)<s.length:=by omega
   have w1:IntKind.i64.wrap ((k:Int)+(q.2:Nat))=((k+q.2:Nat):Int):=wrap64 (by omega);by_cases b1:q.1=65533
   ·have b1':((q.1:Nat):Int)=65533:=by omega
    by_cases b2:q.2=1
    ·have b2':((q.2:Nat):Int)=1:=by omega
     left;have hb:badQ q=true:=by simp[badQ,b1,b2]
     refine⟨.ret,⟨[(2,.flat (.bool false))],[],[],[]⟩,?_,by simp,by rw[hi,hb];rfl⟩;simp only[zly,go_sem,simprocAttr,c1,zai,e1,b1',b2']
    ·have b2':¬((q.2:Nat):Int)=1:=by omega
     right;have hb:badQ q=false:=by simp[badQ,b2]
     refine⟨⟨[(0,.flat (.string (S s))),(3,.flat (.int .i64 ((k+q.2:Nat):Int)))],[],[],[]⟩,k+q.2,?_,?_,g2,by omega,by rw[hi,hb];simp⟩
     ·simp only[zly,go_sem,simprocAttr,c1,zai,e1,b1',b2',w1]
     ·simp only[go_sem,simprocAttr]
   ·have b1':¬((q.1:Nat):Int)=65533:=by omega
    right;have hb:badQ q=false:=by simp[badQ,b1]
    refine⟨⟨[(0,.flat (.string (S s))),(3,.flat (.int .i64 ((k+q.2:Nat):Int)))],[],[],[]⟩,k+q.2,?_,?_,g2,by omega,by rw[hi,hb];simp⟩
    ·simp only[zly,go_sem,simprocAttr,c1,zai,e1,b1',w1]
    ·simp only[go_sem,simprocAttr]
  ·left
   obtain rfl:k=s.length:=by omega
   have c1:¬(s.length:Int)<s.length:=by omega
   have hi:isU (s.drop s.length)=true:=by rw[wdl];rfl
   refine⟨.exit 0,⟨[],[],[],[]⟩,?_,by simp,by rw[hi];rfl⟩;simp only[zly,go_sem,simprocAttr,c1,zai]
def zxf(l:Str)(a:CSt):Str:=(zg7 (zgq l) a (zds (l.drop a.at_))).1.out
theorem yg4(l:Str)(a:CSt)(h:a.at_<l.length):zxf l a=zxf l (zgq l a (decU (l.drop a.at_))).1:=by
 obtain⟨hr,_⟩:=z73 l a.at_ h;unfold zxf;rw[hr];simp only[zg7,z7z,if_true,z2b]
def zru(s:Str)(a:CSt):St:=⟨[(0,.flat (.string (S s))),(3,.flat (.string (S a.out))),(4,.flat (.int .i64 (a.at_:Nat)))],[],[],[]⟩
theorem zxg(s:Str)(hs:s.length<1000000000):evW code lib 44 [.flat (.string (S s))] [] []=some ([.flat (.string (S (zgu s)))],false,[],[]):=by
 refine zab zyp (qa rfl) ?_;have hsm:Sm s:=by unfold Sm;omega
 have hloop:=zfd (body:=evC (evW code lib) big zlx) (live:=[0,3,4]) (nb:=0) (zru s) (fun a=>a.at_<=s.length/\a.out.length<=4* a.at_) (fun a=>s.length - a.at_)
  (fun a=>(.exit 0,⟨[(3,.flat (.string (S (zxf s a))))],[],[],[]⟩)) (fun a ⟨hk,ho⟩=>?_) (n:=big) (a:=⟨0,false,[]⟩) ⟨wa7 _,wab _⟩ (by unfold big;dsimp only;omega)
 ·have hcl:zxf s ⟨0,false,[]⟩=zgu s:=rfl
  have he:(⟨#[]⟩:ByteArray)=S []:=rfl;simp only[zru,hcl,n0]at hloop;simp only[go_sem,simprocAttr,he,hloop]
 ·have e1:=yab (lib:=lib) s a.at_ hsm hk
  by_cases hlt:a.at_<s.length
  ·right
   obtain⟨hr,g1,g2,g3,g4⟩:=z73 s a.at_ hlt;have hcf:=yg4 s a hlt;obtain⟨q,hq⟩:∃q,decU (s.drop a.at_)=q:=⟨_,rfl⟩;rw[hq]at e1 hr g1 g2 g3 g4 hcf;have hln:=z45 s a q;have hat:=z2b s a q;refine⟨zru s (zgq s a q).1,(zgq s a q).1,?_,by simp only[zru,go_sem,simprocAttr],⟨by rw[hat];exact g2,by rw[hat];omega⟩,by rw[hat];omega,by rw[hcf]⟩;have c1:(a.at_:Int)<s.length:=by omega
   have w1:IntKind.i64.wrap ((a.at_:Int)+(q.2:Nat))=((a.at_+q.2:Nat):Int):=wrap64 (by omega);have hb:∀m:Nat,a.out.length+(za7 m).length<=bound:=fun m=>by have:=ze4 m;unfold bound;omega
   have by_:=fun n:Nat=>zk2 (lib:=lib) n
   have by10:evW code lib 91 [.flat (.int .i64 10)] [] []=some ([.flat (.string (S (za7 10)))],false,[],[]):=zk2 10;have byB:evW code lib 91 [.flat (.int .i64 65533)] [] []=some ([.flat (.string (S (za7 65533)))],false,[],[]):=zk2 65533;by_cases r1:q.1=13
   ·have r1':((q.1:Nat):Int)=13:=by omega
    have s10:zf3 10=10:=by decide
    by_cases r2:a.at_+q.2<s.length
    ·have r2':((a.at_+q.2:Nat):Int)<s.length:=by omega
     obtain⟨c,hc⟩:∃c,s[a.at_+q.2]?=some c:=⟨_,qe r2⟩;have z0:(0:Int)<=((a.at_+q.2:Nat):Int):=by omega
     by_cases r3:c=10
     ·subst r3
      have hu:zhk s q a.at_=true:=by simp[zhk,r1,hc]
      have r3':(((10:UInt8).toNat:Nat):Int)=10:=rfl;simp only[zb8,zru,zgq,hu,r1',r2',r3',z0,c1,w1,hc,zai,zdo,za3,wdq,e1,go_sem,simprocAttr]
     ·have hu:zhk s q a.at_=false:=by simp[zhk,hc,r3]
      have r3':¬((c.toNat:Nat):Int)=10:=fun h=>by
       have h9:c.toNat=(10:UInt8).toNat:=by have:(10:UInt8).toNat=10:=rfl;omega
       exact r3 (wdv.1 h9)
      simp only[zb8,zru,zgq,hu,r1,r1',r2',r3',z0,c1,w1,hc,zai,zdo,zo4,za3,wdq,e1,by10,s10,hb,go_sem,simprocAttr]
    ·have r2':¬((a.at_+q.2:Nat):Int)<s.length:=by omega
     have hn:s[a.at_+q.2]?=none:=wb8 (by omega);have hu:zhk s q a.at_=false:=by simp[zhk,hn]
     simp only[zb8,zru,zgq,hu,r1,r1',r2',c1,w1,zai,zo4,e1,by10,s10,hb,go_sem,simprocAttr]
   ·have r1':(((q.1:Nat):Int)=13)=False:=by apply propext;simp only[iff_false];omega
    have hu:zhk s q a.at_=false:=by simp[zhk,r1]
    have d1:(((q.1:Nat):Int)<32)=(q.1<32):=by apply propext;omega
    have d2:(((q.1:Nat):Int)=9)=(q.1=9):=by apply propext;omega
    have d3:(((q.1:Nat):Int)=10)=(q.1=10):=by apply propext;omega
    have d4:((127:Int)<=(q.1:Nat))=(127<=q.1):=by apply propext;omega
    have d5:(((q.1:Nat):Int)<=159)=(q.1<=159):=by apply propext;omega
    have sh:zf3 q.1=if(q.1<32/\q.1≠9/\q.1≠10)\/(127<=q.1/\q.1<160)then 65533 else q.1:=rfl
    by_cases h1:q.1<32
    ·by_cases h2:q.1=9
     ·have hsh:zf3 q.1=q.1:=by rw[sh,if_neg (by omega)]
      have h2':(q.1=9)=True:=eq_true h2;have h4:¬127<=q.1:=by omega
      simp only[zb8,zru,zgq,hu,r1,r1',c1,w1,zai,zo4,e1,d1,d2,d4,h1,h2',h4,hsh,by_,hb,go_sem,simprocAttr]
     ·by_cases h3:q.1=10
      ·have hsh:zf3 q.1=q.1:=by rw[sh,if_neg (by omega)]
       have h3':(q.1=10)=True:=eq_true h3;have h4:¬127<=q.1:=by omega
       simp only[zb8,zru,zgq,hu,r1,r1',c1,w1,zai,zo4,e1,d1,d2,d3,d4,h1,h2,h3',h4,hsh,by_,hb,go_sem,simprocAttr]
      ·have hsh:zf3 q.1=65533:=by rw[sh,if_pos (by omega)]
       simp only[zb8,zru,zgq,hu,r1,r1',c1,w1,zai,zo4,e1,d1,d2,d3,h1,h2,h3,hsh,byB,hb,go_sem,simprocAttr]
    ·by_cases h4:127<=q.1
     ·by_cases h5:q.1<=159
      ·have hsh:zf3 q.1=65533:=by rw[sh,if_pos (by omega)]
       simp only[zb8,zru,zgq,hu,r1,r1',c1,w1,zai,zo4,e1,d1,d4,d5,h1,h4,h5,hsh,byB,hb,go_sem,simprocAttr]
      ·have hsh:zf3 q.1=q.1:=by rw[sh,if_neg (by omega)]
       simp only[zb8,zru,zgq,hu,r1,r1',c1,w1,zai,zo4,e1,d1,d4,d5,h1,h4,h5,hsh,by_,hb,go_sem,simprocAttr]
     ·have hsh:zf3 q.1=q.1:=by rw[sh,if_neg (by omega)]
      simp only[zb8,zru,zgq,hu,r1,r1',c1,w1,zai,zo4,e1,d1,d4,h1,h4,hsh,by_,hb,go_sem,simprocAttr]
  ·left
   have hke:a.at_=s.length:=by omega
   have c1:¬(a.at_:Int)<s.length:=by omega
   refine⟨.exit 0,⟨[(3,.flat (.string (S a.out)))],[],[],[]⟩,?_,by simp,?_⟩
   ·simp only[zb8,zru,go_sem,simprocAttr,c1,zai]
   ·have:zxf s a=a.out:=by unfold zxf;rw[hke,wdl];rfl
    simp only[this]
end Nun
section
namespace Nun
open Go
theorem y0p{a b:Int}(h:a<b):(a<b)=True:=eq_true h
theorem y0q{a b:Int}(h:b<=a):(a<b)=False:=eq_false (by omega)
theorem y0r{a b:Int}(h:a<=b):(a<=b)=True:=eq_true h
theorem y0s{a b:Int}(h:b<a):(a<=b)=False:=eq_false (by omega)
theorem y0t{a b:Int}(h:a=b):(a=b)=True:=eq_true h
theorem y0u{a b:Int}(h:a<b\/b<a):(a=b)=False:=eq_false (by omega)
theorem y0v{a b:Nat}(h:a<b):(a<b)=True:=eq_true h
theorem y0w{a b:Nat}(h:b<=a):(a<b)=False:=eq_false (by omega)
theorem y0x{a b:Nat}(h:a<=b):(a<=b)=True:=eq_true h
theorem y0y{a b:Nat}(h:b<a):(a<=b)=False:=eq_false (by omega)
theorem y0z{a b:Nat}(h:a=b):(a=b)=True:=eq_true h
theorem y00{a b:Nat}(h:a<b\/b<a):(a=b)=False:=eq_false (by omega)
theorem y01{x:Int}(h1:-9223372036854775808<=x)(h2:x<9223372036854775808):IntKind.i64.wrap x=x:=wrap64 ⟨h1,h2⟩
theorem wr_8{x:Int}(h1:0<=x)(h2:x<256):IntKind.u8.wrap x=x:=zsl ⟨h1,h2⟩
theorem y02{x:Int}(h1:-2147483648<=x)(h2:x<2147483648):IntKind.i32.wrap x=x:=wrap32 ⟨h1,h2⟩
theorem u8_nat(a b:UInt8):(a=b)=(a.toNat=b.toNat):=by rw[wdv]
theorem yp7(k m:Nat):((k:Int)+(m:Int)).toNat=k+m:=by omega
theorem tn_1(k:Nat):((k:Int)+1).toNat=k+1:=by omega
theorem tn_2(k:Nat):((k:Int)+2).toNat=k+2:=by omega
theorem tn_3(k:Nat):((k:Int)+3).toNat=k+3:=by omega
theorem yg5{n m:Nat}:((n:Int)<=(no_index (@OfNat.ofNat Int m instOfNat)))=(n<=@OfNat.ofNat Nat m (instOfNatNat m)):=propext wdz
theorem yg6{n m:Nat}:((no_index (@OfNat.ofNat Int m instOfNat))<=(n:Int))=(@OfNat.ofNat Nat m (instOfNatNat m)<=n):=propext wdz
theorem yg7{n m:Nat}:((n:Int)<(no_index (@OfNat.ofNat Int m instOfNat)))=(n<@OfNat.ofNat Nat m (instOfNatNat m)):=propext Int.ofNat_lt
theorem yg8{n m:Nat}:((no_index (@OfNat.ofNat Int m instOfNat))<(n:Int))=(@OfNat.ofNat Nat m (instOfNatNat m)<n):=propext Int.ofNat_lt
theorem yg9{n m:Nat}:((n:Int)=(no_index (@OfNat.ofNat Int m instOfNat)))=(n=@OfNat.ofNat Nat m (instOfNatNat m)):=propext wd0
theorem yha{n m:Nat}:((no_index (@OfNat.ofNat Int m instOfNat))=(n:Int))=(@OfNat.ofNat Nat m (instOfNatNat m)=n):=propext wd0
theorem yp8{n m:Nat}:((n:Int)<=(m:Int))=(n<=m):=propext wdz
theorem yp9{n m:Nat}:((n:Int)<(m:Int))=(n<m):=propext Int.ofNat_lt
theorem yqa{n m:Nat}:((n:Int)=(m:Int))=(n=m):=propext wd0
end Nun
namespace Go.Proofs.YtmpiobfdchlikaaGreatDoor
open Go Nun
theorem au:(((((type_of% @yg5)/\((type_of% @yg6)/\(type_of% @yg7)))/\(((type_of% @yg8)/\(type_of% @yg9))/\((type_of% @yha)/\(type_of% @yp8))))/\((((type_of% @yp9)/\(type_of% @yqa))/\((type_of% @y0p)/\(type_of% @y0q)))/\(((type_of% @y0r)/\(type_of% @y0s))/\((type_of% @y0t)/\(type_of% @y0u)))))/\(((((type_of% @y0v)/\(type_of% @y0w))/\((type_of% @y0x)/\(type_of% @y0y)))/\(((type_of% @y0z)/\(type_of% @y00))/\((type_of% @y01)/\(type_of% @wr_8))))/\((((type_of% @y02)/\(type_of% @zai))/\((type_of% @zdo)/\(type_of% @zi7)))/\(((type_of% @zo4)/\(type_of% @zrs))/\((type_of% @mk_S)/\(type_of% @za3))))))/\(((((type_of% @decide_eq_true_eq)/\((type_of% @decide_eq_false_iff_not)/\(type_of% @wdq)))/\(((type_of% @yp7)/\(type_of% @tn_1))/\((type_of% @tn_2)/\(type_of% @tn_3))))/\((((type_of% @zal)/\(type_of% @zak))/\((type_of% @zaf)/\(type_of% @zap)))/\(((type_of% @zaj)/\(type_of% @zah))/\((type_of% @zb6)/\(type_of% @zgn)))))/\(((((type_of% @zag)/\(type_of% @wbo.{0}))/\((type_of% @wds.{0})/\(type_of% @wcb.{0})))/\(((type_of% @wa4.{0})/\(type_of% @wdx))/\((type_of% @wdo)/\(type_of% @wdw))))/\((((type_of% @wcx)/\(type_of% @Bool.cond_true.{0}))/\((type_of% @Bool.cond_false.{0})/\(type_of% @wd1)))/\(((type_of% @wd2)/\(type_of% @n0))/\((type_of% @n1)/\(type_of% @n2)))))):=
 ⟨⟨⟨⟨⟨@yg5,⟨@yg6,@yg7⟩⟩,⟨⟨@yg8,@yg9⟩,⟨@yha,@yp8⟩⟩⟩,⟨⟨⟨@yp9,@yqa⟩,⟨@y0p,@y0q⟩⟩,⟨⟨@y0r,@y0s⟩,⟨@y0t,@y0u⟩⟩⟩⟩,⟨⟨⟨⟨@y0v,@y0w⟩,⟨@y0x,@y0y⟩⟩,⟨⟨@y0z,@y00⟩,⟨@y01,@wr_8⟩⟩⟩,⟨⟨⟨@y02,@zai⟩,⟨@zdo,@zi7⟩⟩,⟨⟨@zo4,@zrs⟩,⟨@mk_S,@za3⟩⟩⟩⟩⟩,⟨⟨⟨⟨@decide_eq_true_eq,⟨@decide_eq_false_iff_not,@wdq⟩⟩,⟨⟨@yp7,@tn_1⟩,⟨@tn_2,@tn_3⟩⟩⟩,⟨⟨⟨@zal,@zak⟩,⟨@zaf,@zap⟩⟩,⟨⟨@zaj,@zah⟩,⟨@zb6,@zgn⟩⟩⟩⟩,⟨⟨⟨⟨@zag,@wbo.{0}⟩,⟨@wds.{0},@wcb.{0}⟩⟩,⟨⟨@wa4.{0},@wdx⟩,⟨@wdo,@wdw⟩⟩⟩,⟨⟨⟨@wcx,@Bool.cond_true.{0}⟩,⟨@Bool.cond_false.{0},@wd1⟩⟩,⟨⟨@wd2,@n0⟩,⟨@n1,@n2⟩⟩⟩⟩⟩⟩
end Go.Proofs.YtmpiobfdchlikaaGreatDoor
end
namespace Nun
open Go Go.RowKit Go.Proofs Go.Proofs.YtmpiobfdchlikaaGreatDoor
variable {lib:Callee}
def cutU(c:UInt8):Str->List Str
 |[]=>[[]]
 |x::l=>if x=c then[]::cutU c l else(match cutU c l with|p::ps=>(x::p)::ps|[]=>[[x]])
theorem z47{c:UInt8}:∀{l:Str},at1 c l=none->cutU c l=[l]
 |[],h=>rfl
 |x::l,h=>by
  simp only[at1]at h;split at h
  ·cases h
  ·rename_i hx
   have h':at1 c l=none:=by simpa using h
   simp only[cutU,if_neg hx,z47 h']
theorem z48{c:UInt8}:∀{l:Str}{i:Nat},at1 c l=some i->cutU c l=l.take i::cutU c (l.drop (i+1))
 |[],i,h=>by cases h
 |x::l,i,h=>by
  simp only[at1]at h;split at h
  ·rename_i hx
   cases h;simp only[cutU,if_pos hx,List.take_zero,wah,wc8]
  ·rename_i hx
   obtain⟨j,hj,rfl⟩:=qm h;simp only[cutU,if_neg hx,z48 hj,wag,wah]
theorem ze5(s w:Str)(k:Nat)(hs:s.length<=1000000000)(hw:w.length<=1000000000)(hk:k<=1000000000):evW code lib 60 [.flat (.string (S s)),.flat (.string (S w)),.flat (.int .i64 (k:Nat))] [] []=some ([.flat (.bool (zav s w k))],false,[],[]):=by
 refine zab zw7 (qa rfl) ?_;have c0:(0:Int)<=(k:Nat):=by omega
 have w1:IntKind.i64.wrap ((s.length:Int) - (k:Int))=(s.length:Int) - (k:Int):=wrap64 (by omega);have w2:IntKind.i64.wrap ((k:Int)+(w.length:Int))=((k+w.length:Nat):Int):=by rw[wrap64 (by omega)];rfl
 by_cases h:k<=s.length
 ·have c1:(k:Int)<=s.length:=by omega
  by_cases h2:w.length<=s.length - k
  ·have c2:(w.length:Int)<=(s.length:Int) - (k:Int):=by omega
   have c3:(k:Int)<=((k+w.length:Nat):Int):=by omega
   have c4:((k+w.length:Nat):Int)<=s.length:=by omega
   have hp:=ygx s w k h2 h;simp only[go_sem,simprocAttr,zav,c0,c1,c2,c3,c4,w1,w2,h,zai,zi7,zrs,wdq,hp]
  ·have c2:¬(w.length:Int)<=(s.length:Int) - (k:Int):=by omega
   have hp:=yna (s.drop k) w (by rw[wbc];exact h2);simp only[go_sem,simprocAttr,zav,c0,c1,c2,w1,h,zai,hp]
 ·have c1:¬(k:Int)<=s.length:=by omega
  simp only[go_sem,simprocAttr,zav,c0,c1,h,zai]
def zkg{α:Type}(c:UInt8)(step:α->Str->α×Bool):Nat->α->Str->α×Str
 |0,a,r=>(a,r)
 |n+1,a,r=>match at1 c r with
  |none=>((step a r).1,r)
  |some i=>if(step a (r.take i)).2 then zkg c step n (step a (r.take i)).1 (r.drop (i+1))else((step a (r.take i)).1,r)
theorem zz1{α:Type}{c:UInt8}{step:α->Str->α×Bool}:∀(n m:Nat)(a:α)(r:Str),r.length<n->r.length<m->zkg c step n a r=zkg c step m a r
 |0,m,a,r,h,_=>by omega
 |n+1,0,a,r,_,h=>by omega
 |n+1,m+1,a,r,h1,h2=>by
  simp only[zkg];cases hi:at1 c r with
  |none=>rfl
  |some i=>
   have:=z4z hi;dsimp only;rw[zz1 n m _ _ (by rw[wbc];omega) (by rw[wbc];omega)]
theorem yac{α:Type}{c:UInt8}{step:α->Str->α×Bool}:∀(n:Nat)(a:α)(r:Str),r.length<n->(zkg c step n a r).1=(zg7 step a (cutU c r)).1
 |0,a,r,h=>by omega
 |n+1,a,r,h=>by
  simp only[zkg];cases hi:at1 c r with
  |none=>
   rw[z47 hi];simp only[zg7];split<;>rfl
  |some i=>
   have:=z4z hi;rw[z48 hi];simp only[zg7];split
   ·exact yac n _ _ (by rw[wbc];omega)
   ·rfl
theorem ycw{α:Type}(H:zf2 lib)(c:UInt8)(BX:α->Str->zae)(oc:α->List (Nat×Nat))(step:α->Str->α×Bool)(I:α->Str->Prop)(b p p2 nb:Nat)
 (hbox:∀a r,I a r->(BX a r)[p]?=some (9,[.flat (.string (S r))])) (hbox2:∀a r,I a r->(BX a r)[p2]?=some (5,[.flat (.int .u8 c.toNat)])) (hset:∀a r r',(BX a r).set p (9,[.flat (.string (S r'))])=BX a r')
 (hp:∀a r,(BX a r)[p]?=some (9,[.flat (.string (S r))])) (hlen:∀a r,(BX a r).length=nb) (hoc:∀a,∀q∈oc a,q.1<nb) (hocp:∀a,∀q∈oc a,q≠(p,0)) (hI1:∀a r,I a r->r.length<=1000000000)
 (hI:∀a r i,I a r->at1 c r=some i->(step a (r.take i)).2=true->I (step a (r.take i)).1 (r.drop (i+1)))
 (hy:∀a r x,I a r->evW code lib yldF [.yld b,.flat (.string (S x))] (BX a r) (cl (oc a))=some ([.flat (.bool (step a x).2)],false,BX (step a x).1 r,cl (oc (step a x).1))) (a:α) (r:Str) (ha:I a r):
 evW code lib 182 [.yld b,.ptr p 0,.ptr p2 0] (BX a r) (cl (oc a))=some ([],false,BX (zkg c step (r.length+1) a r).1 (zkg c step (r.length+1) a r).2,cl (oc (zkg c step (r.length+1) a r).1)):=by
 refine zab zp9 (qa rfl) ?_;have hl0:=hI1 a r ha
 have hloop:=zfd (body:=evC (evW code lib) big zgh) (live:=[0,1,2]) (nb:=nb) (fun q:α×Str=>(⟨[(0,.yld b),(1,.ptr p 0),(2,.ptr p2 0)],cl (oc q.1),[],BX q.1 q.2⟩:St)) (fun q=>I q.1 q.2) (fun q=>q.2.length)
  (fun q=>(.ret,⟨[],cl (oc (zkg c step (q.2.length+1) q.1 q.2).1),[],BX (zkg c step (q.2.length+1) q.1 q.2).1 (zkg c step (q.2.length+1) q.1 q.2).2⟩)) (fun⟨a,r⟩ ha=>?_) (n:=big) (a:=(a,r)) ha (by unfold big;dsimp only;omega)
 ·have h1:=hlen a r
  have h2:=hlen (zkg c step (r.length+1) a r).1 (zkg c step (r.length+1) a r).2;simp only[go_sem,simprocAttr,zal,zak,zaf,zap,zat h1,h1,zah _ (hoc _),hloop,h2,zat h2]
 ·dsimp only at ha⊢
  have hb:=hbox a r ha;have hb2:=hbox2 a r ha;have h1:=hlen a r;have hl:=hI1 a r ha;have e1:=zzy H r c hl;cases hi:at1 c r with
  |none=>
   left;rw[hi]at e1;have hyy:=hy a r r ha;have h2:=hlen (step a r).1 r;have hf:zkg c step (r.length+1) a r=((step a r).1,r):=by simp only[zkg,hi]
   rw[hf];refine⟨.ret,⟨[],cl (oc (step a r).1),[],BX (step a r).1 r⟩,?_,by simp,rfl⟩;simp only[zfr,go_sem,simprocAttr,zal,zak,zaf,zap,zaj,hb,hb2,e1,hyy,zat h1,h1,h2,zag]
  |some i=>
   rw[hi]at e1;have hlt:=z4z hi;have hyy:=hy a r (r.take i) ha;have h2:=hlen (step a (r.take i)).1 r;have hf:zkg c step (r.length+1) a r=if(step a (r.take i)).2 then zkg c step ((r.drop (i+1)).length+1) (step a (r.take i)).1 (r.drop (i+1))else((step a (r.take i)).1,r):=by
    simp only[zkg,hi];rw[zz1 r.length ((r.drop (i+1)).length+1) _ _ (by rw[wbc];omega) (by omega)];simp only[zkg]
   have c0:¬(i:Int)<0:=by omega
   have c1:(0:Int)<=(i:Nat):=by omega
   have c2:(i:Int)<=r.length:=by omega
   have w1:IntKind.i64.wrap ((i:Int)+1)=((i+1:Nat):Int):=wrap64 (by omega);have c3:(0:Int)<=((i+1:Nat):Int):=by omega
   have c4:((i+1:Nat):Int)<=r.length:=by omega
   have tk:(r.take r.length).drop (i+1)=r.drop (i+1):=by rw[wds]
   have hb3:=hp (step a (r.take i)).1 r;by_cases hst:(step a (r.take i)).2=true
   ·right
    rw[hst]at hyy hf;have h3:=hlen (step a (r.take i)).1 (r.drop (i+1));refine⟨⟨[(0,.yld b),(1,.ptr p 0),(2,.ptr p2 0)],cl (oc (step a (r.take i)).1),[],BX (step a (r.take i)).1 (r.drop (i+1))⟩,((step a (r.take i)).1,r.drop (i+1)),?_,?_,hI a r i ha hi hst,by rw[wbc];omega,?_⟩
    ·simp only[zfr,go_sem,simprocAttr,zal,zak,zaf,zap,zaj,zb6 _ (hocp _),hb,hb2,hb3,e1,hyy,c0,c1,c2,c3,c4,w1,zai,zi7,tk,hset,wdq,zat h1,h1,h2,h3,zag]
    ·simp only[go_sem,simprocAttr,zal,zak,zat h3,h3,zah _ (hoc _)]
    ·simp only[hf,if_true]
   ·left
    have hst:(step a (r.take i)).2=false:=by simpa using hst
    rw[hst]at hyy hf;refine⟨.ret,⟨[],cl (oc (step a (r.take i)).1),[],BX (step a (r.take i)).1 r⟩,?_,by simp,?_⟩
    ·simp only[zfr,go_sem,simprocAttr,zal,zak,zaf,zap,zaj,hb,hb2,e1,hyy,c0,c1,c2,zai,zi7,wdq,zat h1,h1,h2,zag]
    ·simp only[hf,wbf,if_false]
def bxP(c:UInt8)(out:List Str)(r:Str):zae:=[(39,[.slc out.length (zaq out)]),(9,[.flat (.string (S r))]),(5,[.flat (.int .u8 c.toNat)]),(0,[.lp 81 0 .ready [5] [.ptr 0 0]])]
def zz2(out:List Str)(x:Str):List Str×Bool:=(out++[x],true)
theorem yqb:∀(L out:List Str),zg7 zz2 out L=(out++L,true)
 |[],out=>by simp[zg7]
 |q::L,out=>by simp only[zg7,zz2,if_true];rw[yqb L];simp
theorem yhb(c:UInt8)(out:List Str)(r x:Str)(ho:out.length<4294967296):evW code lib yldF [.yld 3,.flat (.string (S x))] (bxP c out r) [.cell 0 0]=some ([.flat (.bool true)],false,bxP c (out++[x]) r,[.cell 0 0]):=by
 refine zks zol zpp rfl rfl rfl ?_;have hb:out.length+1<=bound:=by unfold bound;omega
 have h1:[PV.flat (.string (S x))]=zaq [x]:=rfl;simp only[zrb,zrc,bxP,go_sem,simprocAttr,zam,zbf,hb];simp only[h1,zk0,wb0,waf,wdb]
theorem yqc(H:zf2 lib)(s:Str)(c:UInt8)(hs:s.length<=1000000000):evW code lib 81 [.flat (.string (S s)),.flat (.int .u8 c.toNat)] [] []=some ([.slc (cutU c s).length (zaq (cutU c s))],false,[],[]):=by
 refine zab zpp (qa rfl) ?_
 have hrun:=ycw (lib:=lib) H c (bxP c) (fun _=>[(0,0)]) zz2 (fun out r=>out.length+r.length<=1000000000) 3 1 2 4 (fun _ _ _=>rfl) (fun _ _ _=>rfl) (fun _ _ _=>rfl) (fun _ _=>rfl) (fun _ _=>rfl) (fun a q hq=>by simp at hq;subst hq;decide) (fun a q hq=>by simp at hq;subst hq;decide) (fun a r h=>by omega)
  (fun a r i h hi _=>by
    have:=z4z hi;simp only[zz2,wb0,waf,wdb,wbc];omega)
  (fun a r x h=>yhb c a r x (by omega)) [] s (by simpa using hs)
 have hfe:=yac (c:=c) (step:=zz2) (s.length+1) [] s (by omega);rw[yqb]at hfe;simp only[wa5]at hfe;obtain⟨re,hre⟩:∃re,(zkg c zz2 (s.length+1) [] s).2=re:=⟨_,rfl⟩;have hc:cl [(0,0)]=[.cell 0 0]:=rfl;rw[hfe,hre]at hrun;simp only[hc]at hrun;have hrun2:evW code lib 182 [.yld 3,.ptr 1 0,.ptr 2 0] [(39,[.slc 0 []]),(9,[.flat (.string (S s))]),(5,[.flat (.int .u8 c.toNat)]),(0,[.lp 81 0 .ready [5] [.ptr 0 0]])] [.cell 0 0]=some ([],false,bxP c (cutU c s) re,[.cell 0 0]):=hrun;have e1:evW code lib 137 [.flat (.string (S s)),.flat (.int .u8 c.toNat)] [(39,[.slc 0 []])] [.cell 0 0]=some ([.clo 182 [.ptr 1 0,.ptr 2 0]],false,[(39,[.slc 0 []]),(9,[.flat (.string (S s))]),(5,[.flat (.int .u8 c.toNat)])],[.cell 0 0]):=by
  refine zab zkx (qa rfl) ?_;simp only[go_sem,simprocAttr]
 have e2:evW code lib 137 [.flat (.string (S s)),.flat (.int .u8 c.toNat)] [] []=some ([.clo 182 [.ptr 0 0,.ptr 1 0]],false,[(9,[.flat (.string (S s))]),(5,[.flat (.int .u8 c.toNat)])],[]):=by
  refine zab zkx (qa rfl) ?_;simp only[go_sem,simprocAttr]
 simp only[go_sem,simprocAttr,e1,e2,hrun2,bxP,zcy]
theorem yqd(H:zcz lib)(s p:Str)(h:s.length<=1000000000)(h2:p.length<=1000000000):evW code lib 74 [.flat (.string (S s)),.flat (.string (S p))] [] []=some ([.flat (.bool (p.isPrefixOf s))],false,[],[]):=
 zde (by decide) (by kernel_rfl) (H s p h h2)
theorem z49(H:zcz lib)(s w:Str)(k:Nat)(hs:s.length<=1000000000)(hw:w.length<=1000000000):evW code lib 134 [.flat (.string (S s)),.flat (.string (S w)),.flat (.int .i64 (k:Nat))] [] []=some ([.flat (.bool (zav s w k))],false,[],[]):=by
 refine zab zss (qa rfl) ?_;have c0:(0:Int)<=(k:Nat):=by omega
 by_cases h:k<=s.length
 ·have c1:(k:Int)<=s.length:=by omega
  have e1:=yqd H (s.drop k) w (by rw[wbc];omega) hw;have tk:(s.take s.length).drop k=s.drop k:=by rw[wds]
  simp only[go_sem,simprocAttr,zav,c0,c1,h,zai,zi7,tk,e1,wdq]
 ·have c1:¬(k:Int)<=s.length:=by omega
  simp only[go_sem,simprocAttr,zav,c0,c1,h,zai]
def ycx(c:UInt8):Bool:=!((decide ((c.toNat|||32)<97)||decide (122<(c.toNat|||32)))&&((decide (c.toNat<48)||decide (57<c.toNat))&& !decide (c.toNat=45)))
def z2d(s:Str)(k:Nat):St:=⟨[(0,.flat (.string (S s))),(6,.flat (.int .i64 (s.length:Nat))),(7,.flat (.int .i64 (k:Nat)))],[],[],[]⟩
theorem ycy(s:Str)(k:Nat)(c:UInt8)(hk:k<s.length)(hs:s.length<=1000000000)(hc:s[k]?=some c):evC (evW code lib) big zh9 (z2d s k)=if ycx c then some (.normal,z2d s (k+1))else some (.ret,⟨[(2,.flat (.bool false))],[],[],[]⟩):=by
 have c1:(k:Int)<s.length:=by omega
 have c2:(0:Int)<=(k:Nat):=by omega
 have w1:IntKind.i64.wrap ((k:Int)+1)=((k+1:Nat):Int):=wrap64 (by omega);have hcb:=c.toNat_lt;have o1:zwb .u8 (c.toNat:Int) 32=((c.toNat|||32:Nat):Int):=u8_or c.toNat 32 (by omega) (by omega);obtain⟨m,hm⟩:∃m,c.toNat|||32=m:=⟨_,rfl⟩;obtain⟨n,hn⟩:∃n,c.toNat=n:=⟨_,rfl⟩;unfold ycx;rw[hm]at o1⊢;rw[hn]at o1⊢;have d1:((m:Int)<97)=(m<97):=by apply propext;omega
 have d2:((122:Int)<m)=(122<m):=by apply propext;omega
 have d3:((n:Int)<48)=(n<48):=by apply propext;omega
 have d4:((57:Int)<n)=(57<n):=by apply propext;omega
 have d5:((n:Int)=45)=(n=45):=by apply propext;omega
 by_cases a1:m<97<;>by_cases a2:122<m<;>by_cases a3:n<48<;>by_cases a4:57<n<;>by_cases a5:(n=45)=True
 all_goals first
  |(exfalso;omega)
  |skip
 all_goals
  first
   |(simp only[zj4,z2d,go_sem,simprocAttr,c1,c2,zdo,wdq,hc,za3,hn,o1,d1,d2,d3,d4,d5,a1,a2,a3,a4,a5,w1,wdo,wdx,wcx,wdw];done)
   |(have a6:¬n=45:=fun h=>a5 (eq_true h)
     simp only[zj4,z2d,go_sem,simprocAttr,c1,c2,zdo,wdq,hc,za3,hn,o1,d1,d2,d3,d4,d5,a1,a2,a3,a4,a6,w1,wdo,wdx,wcx,wdw])
def zo5(s:Str):Bool:=s.all ycx&&(!decide (s=[])&&decide (s.length<=32))
theorem yhc(s:Str)(hs:s.length<=1000000000):evW code lib 80 [.flat (.string (S s))] [] []=some ([.flat (.bool (zo5 s))],false,[],[]):=by
 refine zab zyk (qa rfl) ?_
 have hloop:=zfd (body:=evC (evW code lib) big zh9) (live:=[0,6,7]) (nb:=0) (z2d s) (fun k=>k<=s.length) (fun k=>s.length - k)
  (fun k=>if(s.drop k).all ycx then(.exit 0,⟨[(0,.flat (.string (S s)))],[],[],[]⟩)else(.ret,⟨[(2,.flat (.bool false))],[],[],[]⟩)) (fun k hk=>?_) (n:=big) (a:=0) (wa7 _) (by unfold big;omega)
 ·simp only[z2d,wc8,n0]at hloop
  have he:(⟨#[]⟩:ByteArray)=S []:=rfl;cases hi:s.all ycx with
  |true=>
   simp only[hi,if_true]at hloop;by_cases h1:s=[]
   ·have h1':(s=[])=True:=eq_true h1
    simp only[go_sem,simprocAttr,zai,hloop,he,zrs,zo5,hi,h1']
   ·by_cases h2:s.length<=32
    ·have h2':(s.length:Int)<=32:=by omega
     simp only[go_sem,simprocAttr,zai,hloop,he,zrs,zo5,hi,h1,h2,h2']
    ·have h2':¬(s.length:Int)<=32:=by omega
     simp only[go_sem,simprocAttr,zai,hloop,he,zrs,zo5,hi,h1,h2,h2']
  |false=>
   simp only[hi,wbf,if_false]at hloop;simp only[go_sem,simprocAttr,zai,hloop,zo5,hi]
 ·by_cases hlt:k<s.length
  ·have hc:s[k]?=some s[k]:=qe hlt
   have hd:s.drop k=s[k]::s.drop (k+1):=wcm hlt;have hr:=ycy (lib:=lib) s k s[k] hlt hs hc;cases hb:ycx s[k]with
   |true=>
    right;rw[hb,if_pos rfl]at hr;exact⟨z2d s (k+1),k+1,hr,by simp only[z2d,go_sem,simprocAttr],hlt,by omega,by rw[hd,wcg,hb,wbh]⟩
   |false=>
    left;rw[hb]at hr;exact⟨.ret,_,hr,by simp,by rw[hd,wcg,hb];rfl⟩
  ·left
   obtain rfl:k=s.length:=by omega
   have c1:¬(s.length:Int)<s.length:=by omega
   refine⟨.exit 0,⟨[(0,.flat (.string (S s)))],[],[],[]⟩,?_,by simp,by rw[wdl];rfl⟩;simp only[zj4,z2d,go_sem,simprocAttr,c1]
def longer(w:Str)(long:Nat):Bool:=decide (76<=w.length+long)
def putT(l w:Str)(long:Nat):Str:=(if longer w long then l++[13,10]else l)++(32::w)
def putL(w:Str)(long:Nat):Nat:=(if longer w long then 0 else long)+(1+w.length)
theorem y03(HB:zgp lib){bx:zae}{r:List (Nat×Nat)}{b e:Nat}{u:Bool}{l w:Str}{long:Nat}(hb:bx[b]?=some (e,bld u b l [.flat (.int .i64 (long:Nat))]))(hl:liesB e 3)(hs:l.length+w.length<=1000000000)(hlo:long<=1000000000)(hr:∀q∈r,q≠(b,1))(hr2:∀q∈r,q≠(b,2))(hlt:∀q∈r,q.1<bx.length):
 evW code lib 94 [.ptr b 0,.flat (.string (S w))] bx (.cell b 1::cl r)=some ([],false,bx.set b (e,bld true b (putT l w long) [.flat (.int .i64 (putL w long:Nat))]),.cell b 1::cl r):=by
 refine zab zp8 (qa rfl) ?_;have hblt:b<bx.length:=(qg hb).1;have hbc:∃p0,bx[b]?=some (e,p0::.slc l.length (zc8 l)::[.flat (.int .i64 (long:Nat))])/\(p0=.ptr b 0\/p0=.flat (.pointer none)):=by
  cases u
  ·exact⟨_,hb,.inr rfl⟩
  ·exact⟨_,hb,.inl rfl⟩
 obtain⟨p0,hb0,hp0⟩:=hbc;have w1:IntKind.i64.wrap (76 - (long:Int))=76 - (long:Int):=wrap64 (by omega);have w2:IntKind.i64.wrap (1+(w.length:Int))=((1+w.length:Nat):Int):=by rw[wrap64 (by omega)];rfl
 have w3:IntKind.i64.wrap ((long:Int)+((1+w.length:Nat):Int))=((long+(1+w.length):Nat):Int):=wrap64 (by omega);have w4:IntKind.i64.wrap (0+((1+w.length:Nat):Int))=((0+(1+w.length):Nat):Int):=wrap64 (by omega);have hcr:(⟨#[13,10]⟩:ByteArray)=S [13,10]:=rfl;have hsp:(⟨#[32]⟩:ByteArray)=S [32]:=rfl;have hsz:1+w.length<=bound:=by unfold bound;omega
 by_cases h:76<=w.length+long
 ·have h':76 - (long:Int)<=w.length:=by omega
  have hlg:longer w long=true:=by simp[longer,h]
  have ws1:=zxd (lib:=lib) (r:=r) (m:=[13,10]) HB hb hl (by simp;unfold bound;omega) hr hlt;obtain⟨bx1,h1⟩:∃bx1,bx.set b (e,bld true b (l++[13,10]) [.flat (.int .i64 (long:Nat))])=bx1:=⟨_,rfl⟩;have hb1:bx1[b]?=some (e,.ptr b 0::.slc (l++[13,10]).length (zc8 (l++[13,10]))::[.flat (.int .i64 (long:Nat))]):=by rw[<-h1,wbp hblt];rfl
  have hl1:bx1.length=bx.length:=by rw[<-h1,wbo]
  obtain⟨bx2,h2⟩:∃bx2,bx1.set b (e,.ptr b 0::.slc (l++[13,10]).length (zc8 (l++[13,10]))::[.flat (.int .i64 0)])=bx2:=⟨_,rfl⟩;have hb2:bx2[b]?=some (e,bld true b (l++[13,10]) [.flat (.int .i64 0)]):=by rw[<-h2,wbp (by omega)];rfl
  have hl2:bx2.length=bx.length:=by rw[<-h2,wbo,hl1]
  have ws2:=zxd (lib:=lib) (r:=r) (m:=32::w) HB hb2 hl (by simp;unfold bound;omega) hr (by rw[hl2];exact hlt);obtain⟨bx3,h3⟩:∃bx3,bx2.set b (e,bld true b (l++[13,10]++(32::w)) [.flat (.int .i64 0)])=bx3:=⟨_,rfl⟩;have hb3:bx3[b]?=some (e,.ptr b 0::.slc (l++[13,10]++(32::w)).length (zc8 (l++[13,10]++(32::w)))::[.flat (.int .i64 0)]):=by rw[<-h3,wbp (by omega)];rfl
  have hl3:bx3.length=bx.length:=by rw[<-h3,wbo,hl2]
  have hset:∀q,bx3.set b q=bx.set b q:=fun q=>by rw[<-h3,<-h2,<-h1,wcb,wcb,wcb]
  rw[h1]at ws1;rw[h3]at ws2;have hfin:putT l w long=l++[13,10]++(32::w):=by simp only[putT,hlg,if_true]
  have hfl:putL w long=0+(1+w.length):=by simp only[putL,hlg,if_true]
  rw[hfin,hfl];rcases hp0 with rfl|rfl<;>simp only[go_sem,simprocAttr,hb0,hb1,hb2,hb3,h2,ws1,ws2,h',w1,w2,w4,hcr,hsp,hsz,zai,zo4,zal,zak,zaf,zap,zaj,zgn r hr,zb6 r hr,zb6 r hr2,zah r hlt,hl1,hl2,hl3,hblt,wbo,hset,zag]
  all_goals (try rfl)
 ·have h':¬76 - (long:Int)<=w.length:=by omega
  have hlg:longer w long=false:=by simp[longer,h]
  have ws2:=zxd (lib:=lib) (r:=r) (m:=32::w) HB hb hl (by simp;unfold bound;omega) hr hlt;obtain⟨bx3,h3⟩:∃bx3,bx.set b (e,bld true b (l++(32::w)) [.flat (.int .i64 (long:Nat))])=bx3:=⟨_,rfl⟩;have hb3:bx3[b]?=some (e,.ptr b 0::.slc (l++(32::w)).length (zc8 (l++(32::w)))::[.flat (.int .i64 (long:Nat))]):=by rw[<-h3,wbp (by omega)];rfl
  have hl3:bx3.length=bx.length:=by rw[<-h3,wbo]
  have hset:∀q,bx3.set b q=bx.set b q:=fun q=>by rw[<-h3,wcb]
  rw[h3]at ws2;have hfin:putT l w long=l++(32::w):=by simp only[putT,hlg,wbf,if_false]
  have hfl:putL w long=long+(1+w.length):=by simp only[putL,hlg,wbf,if_false]
  rw[hfin,hfl];rcases hp0 with rfl|rfl<;>simp only[go_sem,simprocAttr,hb0,hb3,ws2,h',w1,w2,w3,hsp,hsz,zai,zo4,zal,zak,zaf,zap,zaj,zgn r hr,zb6 r hr,zb6 r hr2,zah r hlt,hl3,hblt,wbo,hset,zag]
  all_goals (try rfl)
theorem yus:liesB 144 3:=by unfold liesB;kernel_rfl
def z5a(s:Str)(k:Nat)(c:UInt8)(long:Nat):Bool:=(decide (c.toNat=32)&&decide (long=0))||(decide (c.toNat<32)||(decide (126<c.toNat)||zav s [61,63] k))
def zrv(c:UInt8)(long:Nat):Nat:=if c.toNat=32 then 0 else long+1
def z5b(s:Str)(q:Nat×Nat):St:=⟨[(0,.flat (.string (S s))),(3,.flat (.int .i64 (q.2:Nat))),(9,.flat (.int .i64 (s.length:Nat))),(10,.flat (.int .i64 (q.1:Nat)))],[],[],[]⟩
theorem plain_round(H:zcz lib)(s:Str)(k long:Nat)(c:UInt8)(hk:k<s.length)(hs:s.length<=1000000000)(hl:long<=60)(hc:s[k]?=some c):
 evC (evW code lib) big zhe (z5b s (k,long))=if z5a s k c long||decide (60<zrv c long)then some (.ret,⟨[(2,.flat (.bool false))],[],[],[]⟩)else some (.normal,z5b s (k+1,zrv c long)):=by
 have c1:(k:Int)<s.length:=by omega
 have c2:(0:Int)<=(k:Nat):=by omega
 have w1:IntKind.i64.wrap ((k:Int)+1)=((k+1:Nat):Int):=wrap64 (by omega);have w2:IntKind.i64.wrap ((long:Int)+1)=((long+1:Nat):Int):=wrap64 (by omega);have hq:(⟨#[61,63]⟩:ByteArray)=S [61,63]:=rfl;have hb:=z49 (lib:=lib) H s [61,63] k hs (by simp);obtain⟨n,hn⟩:∃n,c.toNat=n:=⟨_,rfl⟩;obtain⟨bg,hbg⟩:∃bg,zav s [61,63] k=bg:=⟨_,rfl⟩;unfold z5a zrv;rw[hbg]at hb⊢;rw[hn];have d1:((n:Int)=32)=(n=32):=by apply propext;omega
 have d2:((n:Int)<32)=(n<32):=by apply propext;omega
 have d3:((126:Int)<n)=(126<n):=by apply propext;omega
 have d4:((long:Int)=0)=(long=0):=by apply propext;omega
 have d5:((60:Int)<((long+1:Nat):Int))=(60<long+1):=by apply propext;omega
 have t1:¬(n=32)->(n=32)=False:=eq_false;rcases wd3 (n=32)with a1|a1<;>rcases wd3 (n<32)with a2|a2<;>rcases wd3 (126<n)with a3|a3<;>rcases wd3 (long=0)with a4|a4<;>rcases wd3 (60<long+1)with a5|a5<;>cases bg
 all_goals first
  |(exfalso;omega)
  |skip
 all_goals
  first|have e1:=eq_false a1|have e1:=eq_true a1
  first|have e2:=eq_false a2|have e2:=eq_true a2
  first|have e3:=eq_false a3|have e3:=eq_true a3
  first|have e4:=eq_false a4|have e4:=eq_true a4
  first|have e5:=eq_false a5|have e5:=eq_true a5
  clear a1 a2 a3 a4 a5;simp only[zm7,z5b,go_sem,simprocAttr,c1,c2,zdo,wdq,hc,za3,hn,d1,d2,d3,d4,d5,e1,e2,e3,e4,e5,w1,w2,hq,hb,n0,wdo,wdx,wcx,wdw]
def goP(s:Str)(k long:Nat):Str->Option Nat
 |[]=>some long
 |c::t=>if z5a s k c long||decide (60<zrv c long)then none else goP s (k+1) (zrv c long) t
def znu(s:Str):Bool:=decide (s=[])||(match goP s 0 0 s with|none=>false|some n=>decide (0<n))
theorem ynm(H:zcz lib)(s:Str)(hs:s.length<=1000000000):evW code lib 148 [.flat (.string (S s))] [] []=some ([.flat (.bool (znu s))],false,[],[]):=by
 refine zab zwz (qa rfl) ?_;have he:(⟨#[]⟩:ByteArray)=S []:=rfl;by_cases h0:s=[]
 ·subst h0
  simp only[go_sem,simprocAttr,he,zrs,znu,decide_true,wdo]
 have hloop:=zfd (body:=evC (evW code lib) big zhe) (live:=[0,3,9,10]) (nb:=0) (z5b s) (fun q=>q.1<=s.length/\q.2<=60) (fun q=>s.length - q.1)
  (fun q=>match goP s q.1 q.2 (s.drop q.1)with|some n=>(.exit 0,⟨[(3,.flat (.int .i64 (n:Nat)))],[],[],[]⟩)|none=>(.ret,⟨[(2,.flat (.bool false))],[],[],[]⟩)) (fun q hq=>?_) (n:=big) (a:=(0,0)) ⟨wa7 _,wa7 _⟩ (by unfold big;simp;omega)
 ·simp only[z5b,wc8,n0]at hloop
  have h0':(s=[])=False:=eq_false h0;simp only[znu,h0',decide_false,wcx];cases hg:goP s 0 0 s with
  |none=>
   simp only[hg]at hloop;simp only[go_sem,simprocAttr,zai,hloop,he,zrs,h0']
  |some n=>
   simp only[hg]at hloop;have d:((0:Int)<(n:Nat))=(0<n):=by apply propext;omega
   simp only[go_sem,simprocAttr,zai,hloop,he,zrs,h0',d]
 ·obtain⟨k,long⟩:=q
  obtain⟨hk,hl⟩:=hq;simp only at hk hl;by_cases hlt:k<s.length
  ·have hc:s[k]?=some s[k]:=qe hlt
   have hd:s.drop k=s[k]::s.drop (k+1):=wcm hlt;have hr:=plain_round H s k long s[k] hlt hs hl hc;cases hb:z5a s k s[k] long||decide (60<zrv s[k] long)with
   |false=>
    right;rw[hb]at hr;have hn:zrv s[k] long<=60:=by simp only[wd4,decide_eq_false_iff_not]at hb;omega
    exact⟨z5b s (k+1,zrv s[k] long),(k+1,zrv s[k] long),hr,by simp only[z5b,go_sem,simprocAttr],⟨hlt,hn⟩,by simp only;omega,by simp only[hd,goP,hb,wbf,if_false]⟩
   |true=>
    left;rw[hb]at hr;exact⟨.ret,_,hr,by simp,by simp only[hd,goP,hb,if_true]⟩
  ·left
   obtain rfl:k=s.length:=by omega
   have c1:¬(s.length:Int)<s.length:=by omega
   refine⟨.exit 0,⟨[(3,.flat (.int .i64 (long:Nat)))],[],[],[]⟩,?_,by simp,by simp only[wdl,goP]⟩;simp only[zm7,z5b,go_sem,simprocAttr,c1]
end Nun
section
namespace Nun
open Go Go.RowKit Go.Proofs Go.Proofs.YtmpiobfdchlikaaGreatDoor
variable {lib:Callee}
def zju(lib:Callee)(enc:Str->Str):Prop:=∀s:Str,s.length<=100->(enc s).length<=136/\lib 150 [.flat (.string (S s))] [] []=some ([.flat (.string (S (enc s)))],false,[],[])
theorem yqe{enc:Str->Str}(H:zju lib enc)(s:Str)(h:s.length<=100):evW code lib 150 [.flat (.string (S s))] [] []=some ([.flat (.string (S (enc s)))],false,[],[]):=
 zde (by decide) (by kernel_rfl) (H s h).2
def zd1:Str:=[61,63,85,84,70,45,56,63,66,63]
def zc3(enc:Str->Str)(g:Str):Str:=zd1++enc g++[63,61]
def zd2(enc:Str->Str):Str->List Nat->List Str
 |now,[]=>[zc3 enc now]
 |now,r::l=>if 45<now.length+(za7 r).length then zc3 enc now::zd2 enc (za7 r) l else zd2 enc (now++za7 r) l
def zd3(enc:Str->Str)(s:Str):List Str:=if s=[]then[]else if znu s then cutU 32 s else zd2 enc [] (zl6 s)
theorem zk4{enc:Str->Str}(H:zju lib enc){g:Str}(h:g.length<=100):(zc3 enc g).length<=200:=by
 have:=(H g h).1;simp only[zc3,zd1,wb0,waf,wdb];omega
theorem zqd(enc:Str->Str):∀(l:List Nat)(now:Str),(zd2 enc now l).length<=l.length+1
 |[],now=>by simp[zd2]
 |r::l,now=>by
  simp only[zd2];split
  ·have:=zqd enc l (za7 r);simp only[waf];omega
  ·have:=zqd enc l (now++za7 r);simp only[waf];omega
theorem zvc(c:UInt8):∀s:Str,(cutU c s).length<=s.length+1
 |[]=>by simp[cutU]
 |x::l=>by
  have:=zvc c l;simp only[cutU];split
  ·simp only[waf];omega
  ·split
   ·rename_i h;rw[h]at this;simp only[waf]at this⊢;omega
   ·simp only[waf,wdb];omega
theorem zvd(c:UInt8):∀(s x:Str),x∈cutU c s->x.length<=s.length
 |[],x,h=>by simp[cutU]at h;simp[h]
 |y::l,x,h=>by
  have:=zvd c l;simp only[cutU]at h;split at h
  ·rcases waq.1 h with rfl|h
   ·simp
   ·have:=this x h;simp only[waf];omega
  ·split at h
   ·rename_i p ps hp
    rcases waq.1 h with rfl|h
    ·have:=this p (by rw[hp];exact wcy);simp only[waf];omega
    ·have:=this x (by rw[hp];exact wcw _ h);simp only[waf];omega
   ·simp at h;simp[h]
theorem zs1:∀(n:Nat)(s:Str),s.length<=n->(zds s).length<=s.length
 |_,[],_=>by simp[zsx]
 |0,_::_,h=>by simp at h
 |n+1,c::l,h=>by
  have h1:=zk1 c l;have h2:((c::l).drop (decU (c::l)).2).length<=l.length:=by rw[wbc];simp only[waf];omega
  have:=zs1 n ((c::l).drop (decU (c::l)).2) (by simp only[waf]at h;omega);rw[zi9];simp only[waf];omega
theorem z5c:∀(n:Nat)(s:Str),s.length<=n->∀q∈zds s,q.1<8388608
 |_,[],_,q,hq=>by simp[zsx]at hq
 |0,_::_,h,q,hq=>by simp at h
 |n+1,c::l,h,q,hq=>by
  have h1:=zk1 c l;rw[zi9]at hq;rcases waq.1 hq with rfl|hq
  ·exact zva _
  ·exact z5c n _ (by rw[wbc];simp only[waf]at h⊢;omega) q hq
theorem z5d:∀a:List Nat,zcd (zez a)=true
 |[]=>rfl
 |c::a=>by show zcd (.flat (.int .i32 (c:Nat))::zez a)=true;simp only[zcd,PV.noPtr,z5d a,wbh]
theorem z5e(s:Str):(zl6 s).length<=s.length:=by
 unfold zl6;rw[wbt];exact zs1 _ s (wab _)
theorem ynn(s:Str)(x:Nat)(h:x∈zl6 s):x<8388608:=by
 unfold zl6 at h;obtain⟨q,hq,rfl⟩:=wbv.1 h;exact z5c _ s (wab _) q hq
section
variable {α:Type} (BX:α→zae) (oc:α→List (Nat × Nat)) (step:α→Str→α) (I:α→Nat→Prop) (b p nb:Nat)
theorem yno(hlen:∀a,(BX a).length=nb)(hoc:∀a,∀q∈oc a,q.1<nb)(N:Nat)
 (hI:∀a k x,I a k->k<N->x.length<=10000->I (step a x) (k+1))
 (hy:∀a k x,I a k->k<N->x.length<=10000->evW code lib yldF [.yld b,.flat (.string (S x))] (BX a) (cl (oc a))=some ([.flat (.bool true)],false,BX (step a x),cl (oc (step a x))))
 (L:List Str) (hL:L.length<=N) (hL2:L.length<=1000000) (hx:∀x∈L,x.length<=10000) (a:α) (ha:I a 0) (hN:L.length<big):
 zcn (evC (evW code lib) big zfm) [0,14,15,16] nb big ⟨[(0,.yld b),(14,.slc L.length (zaq L)),(15,.flat (.int .i64 (L.length:Nat))),(16,.flat (.int .i64 0))],cl (oc a),[],BX a⟩=
  some (.exit 0,⟨[],cl (oc (L.foldl step a)),[],BX (L.foldl step a)⟩):=by
 have hloop:=zfd (body:=evC (evW code lib) big zfm) (live:=[0,14,15,16]) (nb:=nb) (fun q:α×Nat=>(⟨[(0,.yld b),(14,.slc L.length (zaq L)),(15,.flat (.int .i64 (L.length:Nat))),(16,.flat (.int .i64 (q.2:Nat)))],cl (oc q.1),[],BX q.1⟩:St)) (fun q=>I q.1 q.2/\q.2<=L.length) (fun q=>L.length - q.2)
  (fun q=>(.exit 0,⟨[],cl (oc ((L.drop q.2).foldl step q.1)),[],BX ((L.drop q.2).foldl step q.1)⟩)) (fun⟨a,k⟩ ha=>?_) (n:=big) (a:=(a,0)) ⟨ha,wa7 _⟩ (by dsimp only;omega)
 ·exact hloop
 ·dsimp only at ha⊢
  obtain⟨ha,hk⟩:=ha;have h1:=hlen a;by_cases hlt:k<L.length
  ·right
   have hc:L[k]?=some L[k]:=qe hlt;have hd:L.drop k=L[k]::L.drop (k+1):=wcm hlt;have hxl:=hx _ (wd5 hlt);have c1:(k:Int)<L.length:=by omega
   have c2:(0:Int)<=(k:Nat):=by omega
   have w1:IntKind.i64.wrap ((k:Int)+1)=((k+1:Nat):Int):=wrap64 (by omega);have hsc:(zaq L).drop k=.flat (.string (S L[k]))::(zaq L).drop (k+1):=by simp only[zaq,<-wd6,hd,wax]
   have hle:1<=((zaq L).drop (k+1)).length+1:=by omega
   have hyy:=hy a k L[k] ha (by omega) hxl;have h2:=hlen (step a L[k]);refine⟨⟨[(0,.yld b),(14,.slc L.length (zaq L)),(15,.flat (.int .i64 (L.length:Nat))),(16,.flat (.int .i64 ((k+1:Nat):Int)))],cl (oc (step a L[k])),[],BX (step a L[k])⟩,(step a L[k],k+1),?_,?_,⟨hI a k _ ha (by omega) hxl,hlt⟩,by dsimp only;omega,by dsimp only;rw[hd,waz]⟩
   ·simp only[zku,go_sem,simprocAttr,zal,zak,zaf,zap,zaj,zam,c1,c2,w1,hsc,hle,waf,hyy,wdq,zat h1,h1,h2,zag]
   ·simp only[go_sem,simprocAttr,zal,zak,zat h2,h2,zah _ (hoc _)]
  ·left
   obtain rfl:k=L.length:=by omega
   have c1:¬(L.length:Int)<L.length:=by omega
   refine⟨.exit 0,⟨[],cl (oc a),[],BX a⟩,?_,by simp,by simp only[wdl,List.foldl_nil]⟩;simp only[zku,go_sem,simprocAttr,zal,zak,zaf,zap,zaj,c1,zat h1,h1,zag]
def grpS(enc:Str->Str):α->Str->List Nat->α×Str
 |a,now,[]=>(a,now)
 |a,now,r::l=>if 45<now.length+(za7 r).length then grpS enc (step a (zc3 enc now)) (za7 r) l else grpS enc a (now++za7 r) l
theorem z74(enc:Str->Str):∀(l:List Nat)(a:α)(now:Str),(zd2 enc now l).foldl step a=step (grpS step enc a now l).1 (zc3 enc (grpS step enc a now l).2)
 |[],a,now=>rfl
 |r::l,a,now=>by
  simp only[zd2,grpS];split
  ·rw[waz];exact z74 enc l _ _
  ·exact z74 enc l _ _
theorem ynp{enc:Str->Str}(HE:zju lib enc)(hlen:∀a,(BX a).length=nb)(hoc:∀a,∀q∈oc a,q.1<nb)(N:Nat)
 (hI:∀a k x,I a k->k<N->x.length<=10000->I (step a x) (k+1))
 (hy:∀a k x,I a k->k<N->x.length<=10000->evW code lib yldF [.yld b,.flat (.string (S x))] (BX a) (cl (oc a))=some ([.flat (.bool true)],false,BX (step a x),cl (oc (step a x))))
 (L:List Nat) (hL:L.length<=N) (hL2:L.length<=1000000) (hx:∀x∈L,x<2147483648) (a:α) (ha:I a 0) (hN:L.length<big):
 zcn (evC (evW code lib) big zfn) [0,5,26,27,28] nb big ⟨[(0,.yld b),(5,.flat (.string (S []))),(26,.slc L.length (zez L)),(27,.flat (.int .i64 (L.length:Nat))),(28,.flat (.int .i64 0))],cl (oc a),[],BX a⟩=
  some (.exit 2,⟨[(0,.yld b),(5,.flat (.string (S (grpS step enc a [] L).2)))],cl (oc (grpS step enc a [] L).1),[],BX (grpS step enc a [] L).1⟩)/\(∃j,j<=L.length/\I (grpS step enc a [] L).1 j)/\(grpS step enc a [] L).2.length<=45:=by
 have hloop:=zfd (body:=evC (evW code lib) big zfn) (live:=[0,5,26,27,28]) (nb:=nb) (fun q:(α×Str)×Nat=>(⟨[(0,.yld b),(5,.flat (.string (S q.1.2))),(26,.slc L.length (zez L)),(27,.flat (.int .i64 (L.length:Nat))),(28,.flat (.int .i64 (q.2:Nat)))],cl (oc q.1.1),[],BX q.1.1⟩:St)) (fun q=>(∃j,j<=q.2/\I q.1.1 j)/\q.1.2.length<=45/\q.2<=L.length) (fun q=>L.length - q.2)
  (fun q=>(.exit 2,⟨[(0,.yld b),(5,.flat (.string (S (grpS step enc q.1.1 q.1.2 (L.drop q.2)).2)))],cl (oc (grpS step enc q.1.1 q.1.2 (L.drop q.2)).1),[],BX (grpS step enc q.1.1 q.1.2 (L.drop q.2)).1⟩)) (fun⟨⟨a,now⟩,k⟩ ha=>?_) (n:=big) (a:=((a,[]),0)) ⟨⟨0,wab _,ha⟩,by simp,wa7 _⟩ (by dsimp only;omega)
 ·refine⟨hloop,?_⟩
  have hgen:∀(l:List Nat)(a:α)(now:Str)(k:Nat),k+l.length=L.length->(∃j,j<=k/\I a j)->now.length<=45->(∃j,j<=L.length/\I (grpS step enc a now l).1 j)/\(grpS step enc a now l).2.length<=45:=by
   intro l
   induction l with
   |nil=>exact fun a now k hk ⟨j,h1,h2⟩ hn=>⟨⟨j,by simp only[wdb]at hk;omega,h2⟩,hn⟩
   |cons r l ih=>
    intro a now k hk ⟨j,h1,h2⟩ hn;have h4:=ze4 r;simp only[waf]at hk;simp only[grpS];split
    ·exact ih _ _ (k+1) (by omega) ⟨j+1,by omega,hI a j _ h2 (by omega) (wac (zk4 HE (by omega)) (by decide))⟩ (by omega)
    ·exact ih _ _ (k+1) (by omega) ⟨j,by omega,h2⟩ (by rw[wb0];omega)
  exact hgen L a [] 0 (by omega) ⟨0,wab _,ha⟩ (by simp)
 ·dsimp only at ha⊢
  obtain⟨⟨j,hj,ha⟩,hn45,hk⟩:=ha;have h1:=hlen a;by_cases hlt:k<L.length
  ·right
   have hc:L[k]?=some L[k]:=qe hlt;have hd:L.drop k=L[k]::L.drop (k+1):=wcm hlt;have hxl:=hx _ (wd5 hlt);obtain⟨r,hr⟩:∃r,L[k]=r:=⟨_,rfl⟩;rw[hr]at hd hxl;have c1:(k:Int)<L.length:=by omega
   have c2:(0:Int)<=(k:Nat):=by omega
   have w1:IntKind.i64.wrap ((k:Int)+1)=((k+1:Nat):Int):=wrap64 (by omega);have w2:IntKind.i64.wrap (45 - (now.length:Int))=45 - (now.length:Int):=wrap64 (by omega);have hsc:(zez L).drop k=.flat (.int .i32 (r:Nat))::(zez L).drop (k+1):=by simp only[zez,<-wd6,hd,wax]
   have hle:1<=((zez L).drop (k+1)).length+1:=by omega
   have hb:=z19 (lib:=lib) r hxl;have hb4:=ze4 r;have hf:(⟨#[61,63,85,84,70,45,56,63,66,63]⟩:ByteArray)=S zd1:=rfl;have hbk:(⟨#[63,61]⟩:ByteArray)=S [63,61]:=rfl;have he0:(⟨#[]⟩:ByteArray)=S []:=rfl;by_cases hg:45<now.length+(za7 r).length
   ·have hg':45 - (now.length:Int)<((za7 r).length:Int):=by omega
    have hcl:=zk4 HE (g:=now) (by omega);have hyy:=hy a j (zc3 enc now) ha (by omega) (by omega);have h2:=hlen (step a (zc3 enc now));have he:=yqe HE now (by omega);have hap:zd1++enc now++[63,61]=zc3 enc now:=rfl;have hel:=(HE now (by omega)).1;have q1:zd1.length+(enc now).length<=bound:=by unfold bound;simp only[zd1,waf,wdb];omega
    have q3:(za7 r).length<=bound:=by unfold bound;omega
    have q2:(zd1++enc now).length+2<=bound:=by unfold bound;simp only[zd1,wb0,waf,wdb];omega
    refine⟨⟨[(0,.yld b),(5,.flat (.string (S (za7 r)))),(26,.slc L.length (zez L)),(27,.flat (.int .i64 (L.length:Nat))),(28,.flat (.int .i64 ((k+1:Nat):Int)))],cl (oc (step a (zc3 enc now))),[],BX (step a (zc3 enc now))⟩,((step a (zc3 enc now),za7 r),k+1),?_,?_,⟨⟨j+1,by dsimp only;omega,hI a j _ ha (by omega) (by omega)⟩,by dsimp only;omega,hlt⟩,by dsimp only;omega,by dsimp only;rw[hd];simp only[grpS,hg,if_true]⟩
    ·simp only[zg4,go_sem,simprocAttr,zal,zak,zaf,zap,zaj,zsy,c1,c2,w1,w2,hsc,hle,waf,hb,hg',zai,zo4,hf,hbk,he0,he,hap,q1,q2,q3,hyy,wdq,zat h1,h1,h2,zag,wa5]
    ·simp only[go_sem,simprocAttr,zal,zak,zat h2,h2,zah _ (hoc _)]
   ·have hg':¬45 - (now.length:Int)<((za7 r).length:Int):=by omega
    have q1:now.length+(za7 r).length<=bound:=by unfold bound;omega
    refine⟨⟨[(0,.yld b),(5,.flat (.string (S (now++za7 r)))),(26,.slc L.length (zez L)),(27,.flat (.int .i64 (L.length:Nat))),(28,.flat (.int .i64 ((k+1:Nat):Int)))],cl (oc a),[],BX a⟩,((a,now++za7 r),k+1),?_,?_,⟨⟨j,by dsimp only;omega,ha⟩,by dsimp only;rw[wb0];omega,hlt⟩,by dsimp only;omega,by dsimp only;rw[hd];simp only[grpS,hg,if_false]⟩
    ·simp only[zg4,go_sem,simprocAttr,zal,zak,zaf,zap,zaj,zsy,c1,c2,w1,w2,hsc,hle,waf,hb,hg',q1,zai,zo4,wdq,zat h1,h1,zag]
    ·simp only[go_sem,simprocAttr,zal,zak,zat h1,h1,zah _ (hoc _)]
  ·left
   obtain rfl:k=L.length:=by omega
   have c1:¬(L.length:Int)<L.length:=by omega
   refine⟨.exit 2,⟨[(0,.yld b),(5,.flat (.string (S now)))],cl (oc a),[],BX a⟩,?_,by simp,by simp only[wdl,grpS]⟩;simp only[zg4,go_sem,simprocAttr,zal,zak,zaf,zap,zaj,c1,zat h1,h1,zag]
theorem yhd{enc:Str->Str}(HE:zju lib enc)(HI:zf2 lib)(HP:zcz lib)(s:Str)(hs:s.length<=10000)(hbox:∀a,(BX a)[p]?=some (9,[.flat (.string (S s))]))(hlen:∀a,(BX a).length=nb)(hoc:∀a,∀q∈oc a,q.1<nb)
 (hI:∀a k x,I a k->k<10002->x.length<=10000->I (step a x) (k+1))
 (hy:∀a k x,I a k->k<10002->x.length<=10000->evW code lib yldF [.yld b,.flat (.string (S x))] (BX a) (cl (oc a))=some ([.flat (.bool true)],false,BX (step a x),cl (oc (step a x)))) (a:α) (ha:I a 0):
 evW code lib 147 [.yld b,.ptr p 0] (BX a) (cl (oc a))=some ([],false,BX ((zd3 enc s).foldl step a),cl (oc ((zd3 enc s).foldl step a))):=by
 refine zab zsq (qa rfl) ?_;have he0:(⟨#[]⟩:ByteArray)=S []:=rfl;have hb:=hbox a;have h1:=hlen a;by_cases h0:s=[]
 ·have h0':(s=[])=True:=eq_true h0
  simp only[go_sem,simprocAttr,zal,zak,zaf,zap,zaj,hb,he0,zrs,h0',zd3,List.foldl_nil,zat h1,h1,zag,zah _ (hoc a)]
 have h0':(s=[])=False:=eq_false h0;have hpl:=ynm (lib:=lib) HP s (by omega);cases hp:znu s with
 |true=>
  rw[hp]at hpl;have hcut:=yqc HI s 32 (by omega);have hcl:=zvc 32 s;have hr:=yno (lib:=lib) BX oc step I b nb hlen hoc 10002 hI hy (cutU 32 s) (by omega) (by omega) (fun x hx=>by have:=zvd 32 s x hx;omega) a ha (by unfold big;omega);have h2:=hlen ((cutU 32 s).foldl step a);have h32:((32:UInt8).toNat:Int)=32:=rfl;rw[h32]at hcut;simp only[go_sem,simprocAttr,zal,zak,zaf,zap,zaj,hb,he0,zrs,h0',hpl,hp,hcut,hr,zd3,zcy,zbh,zat h1,h1,zat h2,h2,zag,zah _ (hoc _)]
 |false=>
  rw[hp]at hpl;have hrn:=yne (lib:=lib) s (by omega);have hnl:=z5e s;obtain⟨hr,⟨j,hj,hj2⟩,hn45⟩:=ynp (lib:=lib) BX oc step I b nb HE hlen hoc 10002 hI hy (zl6 s) (by omega) (by omega) (fun x hx=>by have:=ynn s x hx;omega) a ha (by unfold big;omega);have hge:=z74 step enc (zl6 s) a [];obtain⟨⟨a2,now⟩,hg⟩:∃q,grpS step enc a [] (zl6 s)=q:=⟨_,rfl⟩;rw[hg]at hr hge hj2 hn45;dsimp only at hr hge hj2 hn45;have hf:(⟨#[61,63,85,84,70,45,56,63,66,63]⟩:ByteArray)=S zd1:=rfl;have hbk:(⟨#[63,61]⟩:ByteArray)=S [63,61]:=rfl;have hcl:=zk4 HE (g:=now) (by omega);have hyy:=hy a2 j (zc3 enc now) hj2 (by omega) (by omega);have h2:=hlen a2;have h3:=hlen (step a2 (zc3 enc now));have he:=yqe HE now (by omega);have hap:zd1++enc now++[63,61]=zc3 enc now:=rfl;have hel:=(HE now (by omega)).1;have q1:zd1.length+(enc now).length<=bound:=by unfold bound;simp only[zd1,waf,wdb];omega
  have q2:(zd1++enc now).length+2<=bound:=by unfold bound;simp only[zd1,wb0,waf,wdb];omega
  have hw:(zd3 enc s).foldl step a=step a2 (zc3 enc now):=by simp only[zd3,h0,hp,wbf,if_false];exact hge
  rw[hw];simp only[go_sem,simprocAttr,zal,zak,zaf,zap,zaj,hb,he0,zrs,h0',hpl,hp,hrn,hr,zsz,z5d,hf,hbk,zo4,zai,he,hap,q1,q2,hyy,waf,zat h1,h1,zat h2,h2,zat h3,h3,zag,zah _ (hoc _)]
end
end Nun
end
namespace Nun
open Go Go.RowKit Go.Proofs Go.Proofs.YtmpiobfdchlikaaGreatDoor
variable {lib:Callee}
theorem yad(s:Str)(bx:zae)(oc:List (Nat×Nat))(h:∀q∈oc,q.1<bx.length):evW code lib 93 [.flat (.string (S s))] bx (cl oc)=some ([.clo 147 [.ptr bx.length 0]],false,bx++[(9,[.flat (.string (S s))])],cl oc):=by
 refine zab zw0 (qa rfl) ?_;have h3:¬(bx.length+1=bx.length):=by omega
 have h4:zbm (bx.length+1) (cl oc)=cl oc:=zah _ fun q hq=>by have:=h q hq;omega
 simp only[go_sem,simprocAttr,zal,zak,zaf,zap,wb0,h3,Nat.lt_irrefl,h4]
def stepW(q:Str×Nat)(x:Str):Str×Nat:=(putT q.1 x q.2,putL x q.2)
def zk5(enc:Str->Str)(f v:Str):Str:=((zd3 enc v).foldl stepW (f++[58],f.length+1)).1++[13,10]
def bxW(v:Str)(q:Str×Nat):zae:=[(144,bld true 0 q.1 [.flat (.int .i64 (q.2:Nat))]),(9,[.flat (.string (S v))]),(0,[.lp 46 0 .ready [6] [.ptr 0 0]])]
def inW(q:Str×Nat)(k:Nat):Prop:=q.1.length<=11000+k* 10010/\q.2<=10010
theorem yae(q:Str×Nat)(k:Nat)(x:Str)(h:inW q k)(hk:k<10002)(hx:x.length<=10000):inW (stepW q x) (k+1):=by
 obtain⟨h1,h2⟩:=h;unfold inW stepW putT putL longer;dsimp only;by_cases hc:76<=x.length+q.2
 ·simp only[hc,decide_true,if_true,wb0,waf,wdb];omega
 ·simp only[hc,decide_false,wbf,if_false,wb0,waf];omega
theorem z2e:∀(L:List Str)(k:Nat)(q:Str×Nat),inW q k->(k+L.length<=10002/\∀x∈L,x.length<=10000)->(L.foldl stepW q).1.length<=200000000
 |[],k,q,h,hl=>by obtain⟨h1,h2⟩:=h;simp only[List.foldl_nil];have:=hl.1;simp only[wdb]at this;omega
 |x::L,k,q,h,hl=>by
  rw[waz];have h1:=hl.1;simp only[waf]at h1;exact z2e L (k+1) _ (yae q k x h (by omega) (hl.2 x wcy)) ⟨by omega,fun y hy=>hl.2 y (wcw _ hy)⟩
theorem zqe{enc:Str->Str}(HE:zju lib enc):∀(l:List Nat)(now:Str),now.length<=45->∀x∈zd2 enc now l,x.length<=200
 |[],now,h,x,hx=>by simp[zd2]at hx;subst hx;exact zk4 HE (by omega)
 |r::l,now,h,x,hx=>by
  have h4:=ze4 r;simp only[zd2]at hx;split at hx
  ·rcases waq.1 hx with rfl|hx
   ·exact zk4 HE (by omega)
   ·exact zqe HE l _ (by omega) x hx
  ·exact zqe HE l _ (by rw[wb0];omega) x hx
theorem zz3{enc:Str->Str}(HE:zju lib enc)(v:Str)(hv:v.length<=10000):0+(zd3 enc v).length<=10002/\∀x∈zd3 enc v,x.length<=10000:=by
 unfold zd3;split
 ·simp
 ·split
  ·have:=zvc 32 v
   exact⟨by omega,fun x hx=>by have:=zvd 32 v x hx;omega⟩
  ·have:=zqd enc (zl6 v) []
   have:=z5e v;exact⟨by omega,fun x hx=>by have:=zqe HE _ [] (by simp) x hx;omega⟩
theorem z77(HB:zgp lib)(v:Str)(q:Str×Nat)(k:Nat)(x:Str)(h:inW q k)(hk:k<10002)(hx:x.length<=10000):evW code lib yldF [.yld 2,.flat (.string (S x))] (bxW v q) [.cell 0 1]=some ([.flat (.bool true)],false,bxW v (stepW q x),[.cell 0 1]):=by
 refine zks zol znn rfl rfl rfl ?_;obtain⟨h1,h2⟩:=h;have hp:=y03 (lib:=lib) HB (bx:=[(144,bld true 0 q.1 [.flat (.int .i64 (q.2:Nat))]),(9,[.flat (.string (S v))]),(0,[.lp 46 0 .busy [6] [.ptr 0 0]])]) (r:=[]) (b:=0) (e:=144) (u:=true) (l:=q.1) (w:=x) (long:=q.2) rfl yus (by omega) (by omega) (by simp) (by simp) (by simp);have hc:(Loc.cell 0 1::cl [])=[.cell 0 1]:=rfl;simp only[hc,wa3]at hp;simp only[zpf,zpg,bxW,stepW,go_sem,simprocAttr,hp]
theorem ynq{enc:Str->Str}(HE:zju lib enc)(HI:zf2 lib)(HP:zcz lib)(HB:zgp lib)(f v:Str)(hv:v.length<=10000)(hf:f.length<=10000):evW code lib 46 [.flat (.string (S f)),.flat (.string (S v))] [] []=
 some ([.flat (.string (S (if zo5 f then zk5 enc f v else[]))),.flat (.int .i64 (if zo5 f then 0 else 1))],false,[],[]):=by
 refine zab znn (qa rfl) ?_;have hn:=yhc (lib:=lib) f (by omega);have he0:(⟨#[]⟩:ByteArray)=S []:=rfl;have he1:(⟨#[58]⟩:ByteArray)=S [58]:=rfl;have he2:(⟨#[13,10]⟩:ByteArray)=S [13,10]:=rfl;cases hnm:zo5 f with
 |false=>
  rw[hnm]at hn;simp only[go_sem,simprocAttr,hn,he0,hnm]
 |true=>
  rw[hnm]at hn;have w1:IntKind.i64.wrap ((f.length:Int)+1)=((f.length+1:Nat):Int):=wrap64 (by omega);have ws1:=zxd (lib:=lib) (bx:=[(144,bld false 0 [] [.flat (.int .i64 ((f.length+1:Nat):Int))])]) (r:=[]) (m:=f++[58]) (b:=0) (u:=false) (l:=[]) HB rfl yus (by simp only[wb0,waf,wdb];unfold bound;omega) (by simp) (by simp);have hc0:(Loc.cell 0 1::cl [])=[.cell 0 1]:=rfl;have hrun:=yhd (lib:=lib) (bxW v) (fun _=>[(0,1)]) stepW inW 2 1 3 HE HI HP v hv (fun _=>rfl) (fun _=>rfl) (fun a q hq=>by simp at hq;subst hq;decide) (fun a k x h1 h2 h3=>yae a k x h1 h2 h3) (fun a k x h1 h2 h3=>z77 HB v a k x h1 h2 h3) (f++[58],f.length+1) ⟨by simp only[wb0,waf,wdb];omega,by dsimp only;omega⟩;obtain⟨⟨l,long⟩,hq⟩:∃q,(zd3 enc v).foldl stepW (f++[58],f.length+1)=q:=⟨_,rfl⟩;have hlen:=z2e (zd3 enc v) 0 (f++[58],f.length+1) ⟨by simp only[wb0,waf,wdb];omega,by dsimp only;omega⟩ (zz3 HE v hv);rw[hq]at hrun hlen;have hll:l.length<=200000000:=hlen;have q1:f.length+1<=bound:=by unfold bound;omega
  have f1:evW code lib 47 [.ptr 0 0,.flat (.string (S (f++[58])))] [(144,[.flat (.pointer none),.slc 0 [],.flat (.int .i64 ((f.length+1:Nat):Int))])] [.cell 0 1]=some ([.flat (.int .i64 ((f++[58]).length:Nat)),.flat .nilIface],false,[(144,[.ptr 0 0,.slc (f++[58]).length (zc8 (f++[58])),.flat (.int .i64 ((f.length+1:Nat):Int))])],[.cell 0 1]):=ws1;have e1:=yad (lib:=lib) v [(144,[.ptr 0 0,.slc (f++[58]).length (zc8 (f++[58])),.flat (.int .i64 ((f.length+1:Nat):Int))])] [(0,1)] (by simp);have e2:=yad (lib:=lib) v [] [] (by simp);have hc1:cl [(0,1)]=[.cell 0 1]:=rfl;have hc2:cl []=[]:=rfl;simp only[hc1,hc2,go_sem,simprocAttr]at e1 e2;have f2:evW code lib 147 [.yld 2,.ptr 1 0] [(144,[.ptr 0 0,.slc (f++[58]).length (zc8 (f++[58])),.flat (.int .i64 ((f.length+1:Nat):Int))]),(9,[.flat (.string (S v))]),(0,[.lp 46 0 .ready [6] [.ptr 0 0]])] [.cell 0 1]=some ([],false,[(144,[.ptr 0 0,.slc l.length (zc8 l),.flat (.int .i64 (long:Nat))]),(9,[.flat (.string (S v))]),(0,[.lp 46 0 .ready [6] [.ptr 0 0]])],[.cell 0 1]):=hrun;have ws2:=zxd (lib:=lib) (bx:=[(144,bld true 0 l [.flat (.int .i64 (long:Nat))]),(9,[.flat (.string (S v))])]) (r:=[]) (m:=[13,10]) (b:=0) (u:=true) (l:=l) HB rfl yus (by simp only[waf,wdb];unfold bound;omega) (by simp) (by simp);have f3:evW code lib 47 [.ptr 0 0,.flat (.string (S [13,10]))] [(144,[.ptr 0 0,.slc l.length (zc8 l),.flat (.int .i64 (long:Nat))]),(9,[.flat (.string (S v))])] [.cell 0 1]=some ([.flat (.int .i64 (([13,10]:Str).length:Nat)),.flat .nilIface],false,[(144,[.ptr 0 0,.slc (l++[13,10]).length (zc8 (l++[13,10])),.flat (.int .i64 (long:Nat))]),(9,[.flat (.string (S v))])],[.cell 0 1]):=ws2;have f4:evW code lib 28 [.ptr 0 0] [(144,[.ptr 0 0,.slc (l++[13,10]).length (zc8 (l++[13,10])),.flat (.int .i64 (long:Nat))]),(9,[.flat (.string (S v))])] [.cell 0 1]=some ([.flat (.string (S (l++[13,10])))],false,[(144,[.ptr 0 0,.slc (l++[13,10]).length (zc8 (l++[13,10])),.flat (.int .i64 (long:Nat))]),(9,[.flat (.string (S v))])],zer (.cell 0 1) [.cell 0 1]):=ycv (u:=true) (rest:=[.flat (.int .i64 (long:Nat))]) HB rfl (by simp);have hlr:zk5 enc f v=l++[13,10]:=by simp only[zk5,hq]
  simp only[go_sem,simprocAttr,hn,he0,he1,he2,hnm,w1,q1,zai,zo4,f1,e1,e2,f2,f3,f4,zsw,hlr]
end Nun
namespace Nun
open Go Go.RowKit Go.Proofs Go.Proofs.YtmpiobfdchlikaaGreatDoor
def digN(n:Nat):Nat:=if 48<=n/\n<=57 then n - 48 else if 65<=n/\n<=70 then n - 55 else if 97<=n/\n<=102 then n - 87 else 99
def zcb(base:Nat):Nat->Nat->Str->Nat×Nat
 |0,n,_=>(n,0)
 |_+1,n,[]=>(n,0)
 |m+1,n,c::t=>if digN c.toNat<base then((zcb base m (n* base+digN c.toNat) t).1,(zcb base m (n* base+digN c.toNat) t).2+1)else(n,0)
def numE(base most:Nat)(s:Str):Option (Str×Nat):=
 if(zcb base most 0 s).1≠0/\isN (zcb base most 0 s).1=true/\s[(zcb base most 0 s).2]?=some 59 then some (za7 (zcb base most 0 s).1,(zcb base most 0 s).2+1)else none
def oneE(s:Str):Option (Str×Nat):=
 if([38,97,109,112,59]:Str).isPrefixOf s then some ([38],5)
 else if([38,108,116,59]:Str).isPrefixOf s then some ([60],4)
 else if([38,103,116,59]:Str).isPrefixOf s then some ([62],4)
 else if([38,113,117,111,116,59]:Str).isPrefixOf s then some ([34],6)
 else if([38,35,120]:Str).isPrefixOf s then(numE 16 6 (s.drop 3)).map fun q=>(q.1,3+q.2)
 else if([38,35]:Str).isPrefixOf s then(numE 10 7 (s.drop 2)).map fun q=>(q.1,2+q.2)
 else none
theorem zs2(base:Nat):∀(m n:Nat)(s:Str),(zcb base m n s).2<=m/\(zcb base m n s).2<=s.length
 |0,n,s=>by simp[zcb]
 |m+1,n,[]=>by simp[zcb]
 |m+1,n,c::t=>by
  have:=zs2 base m (n* base+digN c.toNat) t;simp only[zcb];split
  ·simp only[waf];omega
  ·simp
theorem yaf{base most:Nat}{s:Str}{q:Str×Nat}(h:numE base most s=some q):1<=q.2/\q.2<=s.length/\q.1.length<=4:=by
 unfold numE at h;split at h
 ·rename_i hc
  obtain⟨_,_,h3⟩:=hc;have:=(qg h3).1;simp only[war]at h;subst h;exact⟨by simp,by dsimp only;omega,ze4 _⟩
 ·cases h
theorem z2f{s:Str}{q:Str×Nat}(h:oneE s=some q):1<=q.2/\q.2<=s.length/\q.1.length<=4:=by
 unfold oneE at h;split at h
 ·rename_i hp;have:=zgo hp;simp only[war]at h;subst h;simp at this⊢;omega
 split at h
 ·rename_i hp;have:=zgo hp;simp only[war]at h;subst h;simp at this⊢;omega
 split at h
 ·rename_i hp;have:=zgo hp;simp only[war]at h;subst h;simp at this⊢;omega
 split at h
 ·rename_i hp;have:=zgo hp;simp only[war]at h;subst h;simp at this⊢;omega
 split at h
 ·rename_i hp;have h3:=zgo hp
  obtain⟨q',h1,rfl⟩:=qm h;have:=yaf h1;simp only[wbc,waf,wdb]at this h3⊢;omega
 split at h
 ·rename_i hp;have h3:=zgo hp
  obtain⟨q',h1,rfl⟩:=qm h;have:=yaf h1;simp only[wbc,waf,wdb]at this h3⊢;omega
 ·cases h
def zrw(s:Str)(e bad:UInt8)(q:Str×Nat):(Str×Nat) ⊕ Option (Str×Nat):=match s[q.2]? with
 |none=>.inr (some q)
 |some c=>if c=e then .inr (some q)else if c=bad then .inr none else if c=38 then(match oneE (s.drop q.2)with
  |none=>.inr none
  |some (b,k)=>.inl (q.1++b,q.2+k))else .inl (q.1++[c],q.2+1)
def zqf(s:Str)(e bad:UInt8)(at_:Nat):Option (Str×Nat):=runS (zrw s e bad) none (s.length+1) ([],at_)
theorem z2g{s:Str}{e bad:UInt8}(at0:Nat):∀a b:Str×Nat,(a.2<=s.length/\at0<=a.2/\a.1.length<=4* (a.2 - at0))->zrw s e bad a=.inl b->(b.2<=s.length/\at0<=b.2/\b.1.length<=4* (b.2 - at0))/\s.length - b.2<s.length - a.2
 |(out,k),b,⟨h1,h2,h3⟩,h=>by
  unfold zrw at h;dsimp only at h h1 h2 h3;split at h
  ·cases h
  ·rename_i c hc
   have hlt:=(qg hc).1;split at h
   ·cases h
   split at h
   ·cases h
   split at h
   ·split at h
    ·cases h
    ·rename_i x n hx
     have:=z2f hx;simp only[Sum.inl.injEq]at h;subst h;simp only[wbc,wb0]at this⊢;omega
   ·simp only[Sum.inl.injEq]at h
    subst h;simp only[wb0,waf,wdb];omega
theorem zk6{s:Str}{e bad:UInt8}{at_:Nat}(h:at_<=s.length){q:Str×Nat}(hq:zqf s e bad at_=some q):at_<=q.2/\q.2<=s.length/\q.1.length<=4* s.length/\(s[q.2]?=none\/s[q.2]?=some e):=by
 have:=zl3 (step:=zrw s e bad) (d:=none) (I:=fun a=>a.2<=s.length/\at_<=a.2/\a.1.length<=4* (a.2 - at_)) (μ:=fun a=>s.length - a.2) (Q:=fun r=>∀q,r=some q->at_<=q.2/\q.2<=s.length/\q.1.length<=4* s.length/\(s[q.2]?=none\/s[q.2]?=some e)) (fun a hi=>by
  cases hs:zrw s e bad a with
  |inl b=>exact z2g at_ a b hi hs
  |inr r=>
   intro q hq;subst hq;unfold zrw at hs;split at hs
   ·rename_i hn
    simp only[Sum.inr.injEq,war]at hs;subst hs;exact⟨hi.2.1,hi.1,by omega,.inl hn⟩
   ·rename_i c hc
    split at hs
    ·rename_i he
     subst he;simp only[Sum.inr.injEq,war]at hs;subst hs;exact⟨hi.2.1,hi.1,by omega,.inr hc⟩
    ·split at hs
     ·simp at hs
     ·split at hs
      ·split at hs<;>simp at hs
      ·simp at hs) (s.length+1) ([],at_) ⟨h,wab _,by simp⟩ (by dsimp only;omega)
 exact this q hq
def letB(c:UInt8):Bool:=(decide (97<=c.toNat)&&decide (c.toNat<=122))||(decide (48<=c.toNat)&&decide (c.toNat<=57))
def zrx(c:UInt8):Bool:=decide (c.toNat=32)||(decide (c.toNat=9)||decide (c.toNat=10))
def zcm(s:Str)(at_:Nat):Str:=(s.drop at_).takeWhile letB
def gapE(s:Str)(at_:Nat):Str:=(s.drop at_).takeWhile zrx
structure Att where
 name:Str
 val:Str
 fr:Nat
 to:Nat
structure Tok where
 kind:UInt8
 name:Str
 text:Str
 attrs:List Att
 fr:Nat
 to:Nat
def zfi:List Str:=[[97],[98],[98,114],[99,111,100,101],[100,105,118],[101,109],[104,49],[104,50],[104,51],[104,114],[105],[105,109,103],[108,105],[111,108],[112],[112,114,101],[115,112,97,110],[115,116,114,111,110,103],[116,97,98,108,101],[116,98,111,100,121],[116,100],[116,104],[116,104,101,97,100],[116,114],[117],[117,108]]
def znv:List Str:=[[97,108,116],[99,108,97,115,115],[99,111,108,115,112,97,110],[104,114,101,102],[105,100],[114,111,119,115,112,97,110],[115,114,99],[116,105,116,108,101],[119,105,100,116,104]]
def zqg(s:Str):Bool:=decide (s=[98,114])||(decide (s=[104,114])||decide (s=[105,109,103]))
def attE(s:Str)(at_:Nat):Option (Att×Nat):=
 if znv.contains (zcm s at_)&&zav s [61,34] (at_+(zcm s at_).length)then(match zqf s 34 60 (at_+(zcm s at_).length+2)with
  |none=>none
  |some (v,e)=>if e<s.length then some (⟨zcm s at_,v,at_+(zcm s at_).length+2,e⟩,e+1)else none)
 else none
def zjh(s:Str)(q:List Att×Nat):(List Att×Nat) ⊕ Option (List Att×Nat):=
 if zav s [62] (q.2+(gapE s q.2).length)then .inr (some (q.1,q.2+(gapE s q.2).length+1))
 else match attE s (q.2+(gapE s q.2).length)with
  |none=>.inr none
  |some (a,e)=>if(gapE s q.2).length=0\/(q.1.any fun b=>decide (b.name=a.name))=true then .inr none else .inl (q.1++[a],e)
def zuu(s:Str)(at_:Nat):Option (List Att×Nat):=runS (zjh s) none (s.length+1) ([],at_)
def zuv(s:Str)(at_:Nat):Option Tok:=
 if zav s [60,47] at_ then
  (if zfi.contains (zcm s (at_+2))&&(!zqg (zcm s (at_+2))&&zav s [62] (at_+2+(zcm s (at_+2)).length))then some ⟨99,zcm s (at_+2),[],[],at_,at_+2+(zcm s (at_+2)).length+1⟩else none)
 else if zav s [60] at_ then
  (if zfi.contains (zcm s (at_+1))then(zuu s (at_+1+(zcm s (at_+1)).length)).map fun q=>⟨111,zcm s (at_+1),[],q.1,at_,q.2⟩else none)
 else(zqf s 60 62 at_).map fun q=>⟨116,[],q.1,[],at_,q.2⟩
def tokT(s:Str)(q:List Tok×Nat):(List Tok×Nat) ⊕ Option (List Tok):=
 if s.length<=q.2 then .inr (some q.1)else match zuv s q.2 with
  |none=>.inr none
  |some t=>.inl (q.1++[t],t.to)
def z2h(s:Str):Option (List Tok):=if isU s then runS (tokT s) none (s.length+1) ([],0)else none
end Nun
namespace Nun
open Go Go.RowKit Go.Proofs Go.Proofs.YtmpiobfdchlikaaGreatDoor
variable {lib:Callee}
def rd(s:Str)(k:Nat):List PV:=[.flat (.string (S s)),.flat (.int .i64 (k:Nat))]
theorem z2i{bx:zae}{r:List (Nat×Nat)}{b e:Nat}{s:Str}{k:Nat}(hb:bx[b]?=some (e,rd s k))(hlt:∀q∈r,q.1<bx.length):
 evW code lib 107 [.ptr b 0] bx (cl r)=some ([.flat (.bool (decide (s.length<=k)))],false,bx,cl r):=by
 refine zab zqb (qa rfl) ?_;unfold rd at hb;simp only[go_sem,simprocAttr,hb,zal,zak,zaf,zap,zaj,zai,wdz,zah r hlt]
theorem z78(HP:zcz lib){bx:zae}{r:List (Nat×Nat)}{b e:Nat}{s w:Str}{k:Nat}(hb:bx[b]?=some (e,rd s k))(hs:s.length<=1000000000)(hw:w.length<=1000000000)(hk:k<=s.length)(hr:∀q∈r,q≠(b,1))(hlt:∀q∈r,q.1<bx.length):
 evW code lib 159 [.ptr b 0,.flat (.string (S w))] bx (cl r)=some ([.flat (.bool (w.isPrefixOf (s.drop k)))],false,bx.set b (e,rd s (if w.isPrefixOf (s.drop k)then k+w.length else k)),cl r):=by
 refine zab zqc (qa rfl) ?_;have hsame:=zjt hb;unfold rd at hb;have hblt:b<bx.length:=(qg hb).1;have c0:(0:Int)<=(k:Nat):=by omega
 have c1:(k:Int)<=s.length:=by omega
 have tk:(s.take s.length).drop k=s.drop k:=by rw[wds]
 have hp:=yqd HP (s.drop k) w (by rw[wbc];omega) hw;have w1:=wr64 (k:=k) (m:=w.length) (by omega);cases hpr:w.isPrefixOf (s.drop k)with
 |false=>
  rw[hpr]at hp;simp only[hsame,wbf,if_false];simp only[go_sem,simprocAttr,hb,zal,zak,zaf,zap,zaj,zai,zi7,c0,c1,tk,wdq,hp,zah r hlt]
 |true=>
  rw[hpr]at hp;simp only[if_true];simp only[go_sem,simprocAttr,hb,zal,zak,zaf,zap,zaj,zb6 r hr,zai,zi7,c0,c1,tk,wdq,hp,w1,rd,wbo,zah r hlt]
theorem yhe(c:UInt8):evW code lib 161 [.flat (.int .u8 c.toNat)] [] []=some ([.flat (.bool (letB c))],false,[],[]):=by
 refine zab zuo (qa rfl) ?_;unfold letB;obtain⟨n,hn⟩:∃n,c.toNat=n:=⟨_,rfl⟩;rw[hn];have d1:((97:Int)<=((n:Nat):Int))=(97<=n):=by apply propext;omega
 have d2:(((n:Nat):Int)<=(122:Int))=(n<=122):=by apply propext;omega
 have d3:((48:Int)<=((n:Nat):Int))=(48<=n):=by apply propext;omega
 have d4:(((n:Nat):Int)<=(57:Int))=(n<=57):=by apply propext;omega
 rcases wd3 (97<=n)with a1|a1
 all_goals first|(exfalso;omega)|skip
 all_goals rcases wd3 (n<=122)with a2|a2
 all_goals first|(exfalso;omega)|skip
 all_goals rcases wd3 (48<=n)with a3|a3
 all_goals first|(exfalso;omega)|skip
 all_goals rcases wd3 (n<=57)with a4|a4
 all_goals first|(exfalso;omega)|skip
 all_goals
  first|have e1:=eq_false a1|have e1:=eq_true a1
  first|have e2:=eq_false a2|have e2:=eq_true a2
  first|have e3:=eq_false a3|have e3:=eq_true a3
  first|have e4:=eq_false a4|have e4:=eq_true a4
  clear a1 a2 a3 a4
 all_goals simp only[go_sem,simprocAttr,d1,d2,d3,d4,e1,e2,e3,e4,wdo,wdx,wcx,wdw]
theorem ynr(c:UInt8):evW code lib 195 [.flat (.int .u8 c.toNat)] [] []=some ([.flat (.bool (zrx c))],false,[],[]):=by
 refine zab zw2 (qa rfl) ?_;unfold zrx;obtain⟨n,hn⟩:∃n,c.toNat=n:=⟨_,rfl⟩;rw[hn];have d1:(((n:Nat):Int)=(32:Int))=(n=32):=by apply propext;omega
 have d2:(((n:Nat):Int)=(9:Int))=(n=9):=by apply propext;omega
 have d3:(((n:Nat):Int)=(10:Int))=(n=10):=by apply propext;omega
 rcases wd3 (n=32)with a1|a1
 all_goals first|(exfalso;omega)|skip
 all_goals rcases wd3 (n=9)with a2|a2
 all_goals first|(exfalso;omega)|skip
 all_goals rcases wd3 (n=10)with a3|a3
 all_goals first|(exfalso;omega)|skip
 all_goals
  first|have e1:=eq_false a1|have e1:=eq_true a1
  first|have e2:=eq_false a2|have e2:=eq_true a2
  first|have e3:=eq_false a3|have e3:=eq_true a3
  clear a1 a2 a3
 all_goals simp only[go_sem,simprocAttr,d1,d2,d3,e1,e2,e3,wdo,wdx,wcx,wdw]
def whT(s:Str)(p:UInt8->Bool)(k:Nat):Nat ⊕ Nat:=match s[k]? with
 |some c=>if p c then .inl (k+1)else .inr k
 |none=>.inr k
theorem zid(s:Str)(p:UInt8->Bool):∀(n k:Nat),s.length - k<n->k<=s.length->runS (whT s p) 0 n k=k+((s.drop k).takeWhile p).length
 |0,k,h,_=>by omega
 |n+1,k,h,hk=>by
  by_cases hlt:k<s.length
  ·have hd:s.drop k=s[k]::s.drop (k+1):=wcm hlt
   have hg:s[k]?=some s[k]:=qe hlt;rw[hd,List.takeWhile_cons];cases hp:p s[k]with
   |true=>
    rw[zep (show whT s p k=.inl (k+1) by unfold whT;rw[hg];dsimp only;rw[if_pos hp]),zid s p n (k+1) (by omega) hlt];simp only[if_true,waf];omega
   |false=>
    rw[zca (show whT s p k=.inr k by unfold whT;rw[hg];dsimp only;rw[if_neg (by rw[hp];simp)])];simp
  ·have hg:s[k]?=none:=wb8 (by omega)
   rw[zca (show whT s p k=.inr k by unfold whT;rw[hg]),wc0 (by omega)];simp
theorem yag{bx:zae}{r:List (Nat×Nat)}{b e f:Nat}{s:Str}{k:Nat}{p:UInt8->Bool}(hb:bx[b]?=some (e,rd s k))(hs:s.length<=1000000000)(hk:k<=s.length)(hr:∀q∈r,q≠(b,1))(hlt:∀q∈r,q.1<bx.length)
 (hfy:(f=4611686018427387904)=False) (hf:∀c:UInt8,evW code lib f [.flat (.int .u8 c.toNat)] [] []=some ([.flat (.bool (p c))],false,[],[])):
 evW code lib 160 [.ptr b 0,.clo f []] bx (cl r)=some ([.flat (.string (S ((s.drop k).takeWhile p)))],false,bx.set b (e,rd s (k+((s.drop k).takeWhile p).length)),cl r):=by
 refine zab zo2 (qa rfl) ?_;have hblt:b<bx.length:=(qg hb).1
 have hloop:=zl4 (body:=evC (evW code lib) big zft) (live:=[0,1,5]) (nb:=bx.length) (fun j:Nat=>(⟨[(0,.ptr b 0),(1,.clo f []),(5,.flat (.int .i64 (k:Nat)))],cl r,[],bx.set b (e,rd s j)⟩:St))
  (whT s p) 0 (fun j=>(.exit 0,⟨[(0,.ptr b 0),(5,.flat (.int .i64 (k:Nat)))],cl r,[],bx.set b (e,rd s j)⟩)) (fun j=>j<=s.length) (fun j=>s.length - j) (fun j hj=>?_) (fun j hj=>?_) (fun j i hj h=>?_) (fun j=>by simp) (n:=s.length+1) k hk (by(try dsimp only);omega) (by unfold big;(try dsimp only);omega)
 ·rw[zid s p _ k (by omega) hk,zjt hb]at hloop
  have hn:k+((s.drop k).takeWhile p).length<=s.length:=by
   have:=(wd7 p (l:=s.drop k)).length_le;rw[wbc]at this;omega
  obtain⟨n,hnn⟩:∃n,k+((s.drop k).takeWhile p).length=n:=⟨_,rfl⟩;have htk:(s.take n).drop k=(s.drop k).takeWhile p:=by
   rw[<-hnn,wdg,wbs];exact(List.prefix_iff_eq_take.1 (wd7 p)).symm
  rw[hnn]at hloop hn⊢;have hb2:(bx.set b (e,rd s n))[b]?=some (e,rd s n):=wbp hblt;unfold rd at hb hb2;have c0:(0:Int)<=(k:Nat):=by omega
  have c1:(k:Int)<=(n:Nat):=by omega
  have c2:(n:Int)<=s.length:=by omega
  have c3:(0:Int)<=(n:Nat):=by omega
  simp only[rd]at hloop⊢;simp only[go_sem,simprocAttr,hb,hb2,hloop,zal,zak,zaf,zap,zaj,zai,zi7,c0,c1,c2,c3,htk,wdq,wbo,zah r hlt]
 ·have hb2:(bx.set b (e,rd s j))[b]?=some (e,rd s j):=wbp hblt
  have hd:=z2i (lib:=lib) (r:=r) hb2 (by rw[wbo];exact hlt);have hset:∀q,(bx.set b (e,rd s j)).set b q=bx.set b q:=fun q=>wcb ..
  unfold rd at hb2 hd hset⊢;by_cases hlt2:j<s.length
  ·have hg:s[j]?=some s[j]:=qe hlt2
   obtain⟨c,hc⟩:∃c,s[j]=c:=⟨_,rfl⟩;rw[hc]at hg;have hfc:=hf c;have c1:¬s.length<=j:=by omega
   have c2:(0:Int)<=(j:Nat):=by omega
   have w1:=wr1 (k:=j) (by omega);cases hp:p c with
   |true=>
    rw[hp]at hfc;simp only[whT,hg,hp,if_true,outS];simp only[ze8,go_sem,simprocAttr,hb2,hd,hset,hfy,hfc,zal,zak,zaf,zap,zaj,zb6 r hr,zai,zdo,hg,za3,c1,c2,w1,wdq,wbo,zah r hlt]
   |false=>
    rw[hp]at hfc;simp only[whT,hg,hp,wbf,if_false,outS];simp only[ze8,go_sem,simprocAttr,hb2,hd,hset,hfy,hfc,zal,zak,zaf,zap,zaj,zb6 r hr,zai,zdo,hg,za3,c1,c2,w1,wdq,wbo,zah r hlt]
  ·have hg:s[j]?=none:=wb8 (by omega)
   have c1:s.length<=j:=by omega
   simp only[whT,hg,outS];simp only[ze8,go_sem,simprocAttr,hb2,hd,zal,zak,zaf,zap,zaj,c1,wbo,zah r hlt]
 ·simp only[go_sem,simprocAttr,zal,zak,wbo,zah r hlt]
 ·unfold whT at h
  split at h
  ·rename_i c hc
   have:=(qg hc).1;split at h
   ·cases h;(try dsimp only);omega
   ·cases h
  ·cases h
theorem yqf(HP:zcz lib){bx:zae}{r:List (Nat×Nat)}{b e:Nat}{s:Str}{k:Nat}(w:Str)(hb:bx[b]?=some (e,rd s k))(hs:s.length<=1000000000)(hw:w.length<=1000000000)(hk:k<=s.length)(hr:∀q∈r,q≠(b,1))(hlt:∀q∈r,q.1<bx.length)(h:w.isPrefixOf (s.drop k)=false):
 evW code lib 159 [.ptr b 0,.flat (.string (S w))] bx (cl r)=some ([.flat (.bool false)],false,bx,cl r):=by
 have:=z78 HP (w:=w) hb hs hw hk hr hlt;rw[h,if_neg (by simp),zjt hb]at this;exact this
theorem yqg(HP:zcz lib){bx:zae}{r:List (Nat×Nat)}{b e:Nat}{s:Str}{k:Nat}(w:Str)(hb:bx[b]?=some (e,rd s k))(hs:s.length<=1000000000)(hw:w.length<=1000000000)(hk:k<=s.length)(hr:∀q∈r,q≠(b,1))(hlt:∀q∈r,q.1<bx.length)(h:w.isPrefixOf (s.drop k)=true):
 evW code lib 159 [.ptr b 0,.flat (.string (S w))] bx (cl r)=some ([.flat (.bool true)],false,bx.set b (e,rd s (k+w.length)),cl r):=by
 have:=z78 HP (w:=w) hb hs hw hk hr hlt;rw[h,if_pos rfl]at this;exact this
theorem yns(c:UInt8):if 48<=c.toNat/\c.toNat<=57 then digN c.toNat=c.toNat - 48 else if 97<=(c.toNat|||32)/\(c.toNat|||32)<=102 then digN c.toNat=(c.toNat|||32) - 87 else digN c.toNat=99:=by
 have:=zhf (p:=fun n=>decide (if 48<=n/\n<=57 then digN n=n - 48 else if 97<=(n|||32)/\(n|||32)<=102 then digN n=(n|||32) - 87 else digN n=99)) (by decide+kernel) c;exact of_decide_eq_true this
def numT(s:Str)(base most:Nat)(q:Nat×Nat×Nat):(Nat×Nat×Nat) ⊕ (Nat×Nat):=if q.2.1<most then(match s[q.2.2]? with
 |some c=>if digN c.toNat<base then .inl (q.1* base+digN c.toNat,q.2.1+1,q.2.2+1)else .inr (q.1,q.2.2)
 |none=>.inr (q.1,q.2.2))else .inr (q.1,q.2.2)
theorem z2j(s:Str)(base most:Nat):∀(f n many k:Nat),most - many<f->runS (numT s base most) (0,0) f (n,many,k)=((zcb base (most - many) n (s.drop k)).1,k+(zcb base (most - many) n (s.drop k)).2)
 |0,n,many,k,h=>by omega
 |f+1,n,many,k,h=>by
  by_cases hm:many<most
  ·obtain⟨j,hj⟩:∃j,most - many=j+1:=⟨most - many - 1,by omega⟩
   have hj2:most - (many+1)=j:=by omega
   rw[hj];by_cases hk:k<s.length
   ·have hd:s.drop k=s[k]::s.drop (k+1):=wcm hk
    have hg:s[k]?=some s[k]:=qe hk;rw[hd];by_cases hb:digN s[k].toNat<base
    ·rw[zep (show numT s base most (n,many,k)=.inl (n* base+digN s[k].toNat,many+1,k+1) by unfold numT;dsimp only;rw[if_pos hm,hg];dsimp only;rw[if_pos hb]),z2j s base most f _ _ _ (by omega),hj2]
     simp only[zcb,hb,if_true];rw[wam,Nat.add_comm 1]
    ·rw[zca (show numT s base most (n,many,k)=.inr (n,k) by unfold numT;dsimp only;rw[if_pos hm,hg];dsimp only;rw[if_neg hb])]
     simp only[zcb,hb,if_false,wa6]
   ·have hg:s[k]?=none:=wb8 (by omega)
    rw[zca (show numT s base most (n,many,k)=.inr (n,k) by unfold numT;dsimp only;rw[if_pos hm,hg]),wc0 (by omega)];simp only[zcb,wa6]
  ·have:most - many=0:=by omega
   rw[this,zca (show numT s base most (n,many,k)=.inr (n,k) by unfold numT;rw[if_neg hm])];simp only[zcb,wa6]
theorem yhf(n:Nat):(decU (za7 n)).1=if isN n then n else 65533:=by
 unfold za7;have h:isN (if isN n then n else 65533)=true:=by
  cases hn:isN n with
  |true=>simpa using hn
  |false=>rw[if_neg (by simp)];decide
 have:=dec_of _ h [];rw[wcf]at this;rw[this]
theorem yqh(m:Nat)(h:m<=7):16^m<=268435456:=wac (wdp (by omega) h) (by decide)
theorem yhg(HP:zcz lib){bx:zae}{r:List (Nat×Nat)}{b e:Nat}{s:Str}{k base most:Nat}(hb:bx[b]?=some (e,rd s k))(hs:s.length<=1000000000)(hk:k<=s.length)(hr:∀q∈r,q≠(b,1))(hlt:∀q∈r,q.1<bx.length)(hbase:base=16\/base=10)(hmost:most<=7):
 match numE base most (s.drop k)with
 |some (x,c)=>evW code lib 224 [.ptr b 0,.flat (.int .i64 (base:Nat)),.flat (.int .i64 (most:Nat))] bx (cl r)=some ([.flat (.string (S x)),.flat (.bool true)],false,bx.set b (e,rd s (k+c)),cl r)
 |none=>∃k',k'<=s.length/\evW code lib 224 [.ptr b 0,.flat (.int .i64 (base:Nat)),.flat (.int .i64 (most:Nat))] bx (cl r)=some ([.flat (.string (S [])),.flat (.bool false)],false,bx.set b (e,rd s k'),cl r):=by
 have hblt:b<bx.length:=(qg hb).1
 have hloop:=zl4 (body:=evC (evW code lib) big zen) (live:=[0,1,2,8,9]) (nb:=bx.length) (fun q:Nat×Nat×Nat=>(⟨[(0,.ptr b 0),(1,.flat (.int .i64 (base:Nat))),(2,.flat (.int .i64 (most:Nat))),(8,.flat (.int .i64 (q.1:Nat))),(9,.flat (.int .i64 (q.2.1:Nat)))],cl r,[],bx.set b (e,rd s q.2.2)⟩:St))
  (numT s base most) (0,0) (fun q=>(.exit 0,⟨[(0,.ptr b 0),(8,.flat (.int .i64 (q.1:Nat)))],cl r,[],bx.set b (e,rd s q.2)⟩)) (fun q=>q.2.2<=s.length/\q.2.1<=most/\q.1+1<=16^q.2.1) (fun q=>most - q.2.1) (fun⟨n,many,j⟩ hj=>?_) (fun q hj=>?_) (fun⟨n,many,j⟩ i hj h=>?_) (fun j=>by simp) (n:=most+1) (0,0,k) ⟨hk,by simp,by simp⟩ (by(try dsimp only);omega) (by unfold big;(try dsimp only);omega)
 ·rw[z2j s base most _ _ _ _ (by omega)]at hloop
  have hlen:=zs2 base most 0 (s.drop k);have hinv:=zl3 (step:=numT s base most) (d:=(0,0)) (I:=fun q=>q.2.2<=s.length/\q.2.1<=most/\q.1+1<=16^q.2.1) (μ:=fun q=>most - q.2.1) (Q:=fun r=>r.1<268435456) (fun⟨n,many,j⟩ hi=>by
   cases hst:numT s base most (n,many,j)with
   |inl c=>
    obtain⟨h1,h2,h3⟩:=hi;unfold numT at hst;dsimp only at hst h1 h2 h3;split at hst
    ·split at hst
     ·rename_i c hc
      have:=(qg hc).1;split at hst
      ·rename_i hdg
       cases hst;refine⟨⟨by(try dsimp only);omega,by(try dsimp only);omega,?_⟩,by(try dsimp only);omega⟩;dsimp only;rw[wdr];obtain⟨p,hp⟩:∃p,16^many=p:=⟨_,rfl⟩;rw[hp]at h3⊢;rcases hbase with rfl|rfl<;>omega
      ·cases hst
     ·cases hst
    ·cases hst
   |inr q=>
    obtain⟨h1,h2,h3⟩:=hi;have:=yqh many (by dsimp only at h2;omega);unfold numT at hst;dsimp only at hst h1 h2 h3;split at hst
    ·split at hst
     ·split at hst
      ·cases hst
      ·cases hst;dsimp only;omega
     ·cases hst;dsimp only;omega
    ·cases hst;dsimp only;omega) (most+1) (0,0,k) ⟨hk,by simp,by simp⟩ (by(try dsimp only);omega)
  rw[z2j s base most _ _ _ _ (by omega)]at hinv;simp only[wc2]at hloop hinv;rw[wbc]at hlen;unfold numE;obtain⟨⟨n,cnt⟩,hq⟩:∃q,zcb base most 0 (s.drop k)=q:=⟨_,rfl⟩;rw[hq]at hloop hlen hinv⊢;dsimp only at hloop hlen hinv⊢;have hb2:(bx.set b (e,rd s (k+cnt)))[b]?=some (e,rd s (k+cnt)):=wbp hblt;have hlt2:∀q∈r,q.1<(bx.set b (e,rd s (k+cnt))).length:=by rw[wbo];exact hlt
  have hset:∀q,(bx.set b (e,rd s (k+cnt))).set b q=bx.set b q:=fun q=>wcb ..
  have w1:IntKind.i32.wrap (n:Int)=(n:Int):=wrap32 (by omega);have hbs:=z19 (lib:=lib) n (by omega);have hbl:=ze4 n;have hnx:=ygz (lib:=lib) (za7 n) (by unfold Sm;omega) 0 (wa7 _);have w2:IntKind.i64.wrap (((decU (za7 n)).1:Nat):Int)=(((decU (za7 n)).1:Nat):Int):=wrap64 (by have:=zva (za7 n);omega);have hdb:=yhf n;have hn0:((n:Int)=0)=(n=0):=by rw[<-Int.ofNat_zero,wd0]
  have hg59:(s.drop k)[cnt]?=(s.drop (k+cnt))[0]?:=by rw[wal,wal,wa6]
  rw[zjt hb]at hloop;simp only[n0]at hloop;by_cases h0:n=0
  ·subst h0
   rw[if_neg (fun h=>h.1 rfl)];refine⟨k+cnt,by omega,?_⟩;refine zab zc1 (qa rfl) ?_;simp only[n0]at hloop w1 hbs;simp only[wc8,n0]at hnx;simp only[go_sem,simprocAttr,mk_S,hloop,w1,hbs,hnx,zal,zak,zaf,zap,zaj,zah r hlt,wbo]
  ·have h0':=eq_false h0
   simp only[wc8,n0]at hnx;cases hN:isN n with
   |false=>
    rw[hN]at hdb;simp only[wbf,if_false]at hdb;have hne:¬(65533:Int)=(n:Int):=fun h=>by
     have:n=65533:=by omega
     rw[this]at hN;exact absurd hN (by decide)
    rw[if_neg (fun h=>by cases h.2.1)];refine⟨k+cnt,by omega,?_⟩;refine zab zc1 (qa rfl) ?_;rw[hdb]at hnx w2;have w3:IntKind.i64.wrap 65533=65533:=by decide
    simp only[go_sem,simprocAttr,mk_S,hloop,w1,hbs,hnx,w3,hn0,h0',hne,zal,zak,zaf,zap,zaj,zah r hlt,wbo]
   |true=>
    rw[hN]at hdb;simp only[if_true]at hdb;rw[hdb]at hnx w2;by_cases h59:(s.drop k)[cnt]?=some 59
    ·rw[if_pos ⟨h0,rfl,h59⟩]
     have hpre:([59]:Str).isPrefixOf (s.drop (k+cnt))=true:=by
      rw[hg59]at h59;cases hdp:s.drop (k+cnt)with
      |nil=>rw[hdp]at h59;cases h59
      |cons a t=>rw[hdp]at h59;simp at h59;subst h59;simp
     have ht:=yqg (lib:=lib) HP [59] hb2 hs (by simp) (by omega) hr hlt2 hpre;rw[hset]at ht;refine zab zc1 (qa rfl) ?_;simp only[waf,wdb,wbx,wam]at ht;simp only[go_sem,simprocAttr,mk_S,hloop,w1,hbs,hnx,w2,hn0,h0',ht,zal,zak,zaf,zap,zaj,zah r hlt,wbo,zag]
    ·rw[if_neg (fun h=>h59 h.2.2)]
     have hpre:([59]:Str).isPrefixOf (s.drop (k+cnt))=false:=by
      rw[hg59]at h59;cases hdp:s.drop (k+cnt)with
      |nil=>rfl
      |cons a t=>
       rw[hdp]at h59;simp only[wbl,war]at h59;simp only[List.isPrefixOf,wbi,beq_eq_false_iff_ne,ne_eq];exact fun h=>h59 h.symm
     have ht:=yqf (lib:=lib) HP [59] hb2 hs (by simp) (by omega) hr hlt2 hpre;refine⟨k+cnt,by omega,?_⟩;refine zab zc1 (qa rfl) ?_;simp only[go_sem,simprocAttr,mk_S,hloop,w1,hbs,hnx,w2,hn0,h0',ht,zal,zak,zaf,zap,zaj,zah r hlt,wbo,zag]
 ·
  obtain⟨hj1,hj2,hj3⟩:=hj;dsimp only at hj1 hj2 hj3;have hb2:(bx.set b (e,rd s j))[b]?=some (e,rd s j):=wbp hblt;have hlt2:∀q∈r,q.1<(bx.set b (e,rd s j)).length:=by rw[wbo];exact hlt
  have hset:∀q,(bx.set b (e,rd s j)).set b q=bx.set b q:=fun q=>wcb ..
  have hdn:=z2i (lib:=lib) (r:=r) hb2 hlt2;have hpw:=yqh many (by omega);unfold numT;dsimp only;unfold rd at hb2 hdn hset⊢;by_cases hlt1:j<s.length
  ·have hg:s[j]?=some s[j]:=qe hlt1
   obtain⟨c,hc⟩:∃c,s[j]=c:=⟨_,rfl⟩;rw[hc]at hg;have c1:¬s.length<=j:=by omega
   have c2:(0:Int)<=(j:Nat):=by omega
   by_cases hm:many<most
   ·have c3:(many:Int)<most:=by omega
    have hdb:=yns c;have hc256:=c.toNat_lt;obtain⟨x,hx⟩:∃x,c.toNat=x:=⟨_,rfl⟩;have hor:=u8_or x 32 (by omega) (by omega);have hor256:(x|||32)<256:=Nat.or_lt_two_pow (n:=8) (by omega) (by omega);have e32:((32:Nat):Int)=32:=rfl;rw[e32]at hor;rw[hx]at hdb;obtain⟨y,hy⟩:∃y,(x|||32)=y:=⟨_,rfl⟩;rw[hy]at hor hdb hor256;obtain⟨dg,hdg⟩:∃dg,digN x=dg:=⟨_,rfl⟩;rw[hdg]at hdb;have w1:=wr1 (k:=j) (by omega);have w2:=wr1 (k:=many) (by omega);have hexit:∀z:Int,(base:Int)<=z->((base:Int)<=z)=True:=fun z h=>eq_true h
    rcases(show(48<=x/\x<=57/\dg=x - 48)\/(¬(48<=x/\x<=57)/\97<=y/\y<=102/\dg=y - 87)\/(¬(48<=x/\x<=57)/\¬(97<=y/\y<=102)/\dg=99) by
     by_cases p1:48<=x/\x<=57
     ·rw[if_pos p1]at hdb;exact .inl ⟨p1.1,p1.2,hdb⟩
     ·rw[if_neg p1]at hdb
      by_cases p2:97<=y/\y<=102
      ·rw[if_pos p2]at hdb;exact .inr (.inl ⟨p1,p2.1,p2.2,hdb⟩)
      ·rw[if_neg p2]at hdb;exact .inr (.inr ⟨p1,p2,hdb⟩))with⟨p1,p2,p3⟩|⟨p1,p2,p3,p4⟩|⟨p1,p2,p3⟩
    ·have d1:(48:Int)<=(x:Nat):=by omega
     have d2:((x:Nat):Int)<=57:=by omega
     have w3:IntKind.u8.wrap ((x:Int) - 48)=((dg:Nat):Int):=by rw[zsl (by omega)];omega
     have w4:IntKind.i64.wrap ((dg:Nat):Int)=((dg:Nat):Int):=wrap64 (by omega);by_cases hbd:dg<base
     ·have d3:¬(base:Int)<=(dg:Nat):=by omega
      have w5:IntKind.i64.wrap ((n:Int)* (base:Int))=((n* base:Nat):Int):=by rw[wrap64 (by rcases hbase with rfl|rfl<;>omega)];rfl
      have w6:IntKind.i64.wrap (((n* base:Nat):Int)+(dg:Int))=((n* base+dg:Nat):Int):=wr64 (by rcases hbase with rfl|rfl<;>omega);simp only[hm,hg,hx,hdg,hbd,if_true,outS];simp only[zar,go_sem,simprocAttr,hb2,hdn,hset,hx,zal,zak,zaf,zap,zaj,zb6 r hr,zai,zdo,hg,za3,c1,c2,c3,d1,d2,d3,w1,w2,w3,w4,w5,w6,wdq,wbo,zah r hlt,zag]
     ·have d3:(base:Int)<=(dg:Nat):=by omega
      simp only[hm,hg,hx,hdg,hbd,if_true,if_false,outS];simp only[zar,go_sem,simprocAttr,hb2,hdn,hset,hx,zal,zak,zaf,zap,zaj,zb6 r hr,zai,zdo,hg,za3,c1,c2,c3,d1,d2,d3,w1,w2,w3,w4,wdq,wbo,zah r hlt,zag]
    ·have d5:(97:Int)<=(y:Nat):=by omega
     have d6:((y:Nat):Int)<=102:=by omega
     have w3:IntKind.u8.wrap ((y:Int) - 97)=((y - 97:Nat):Int):=by rw[zsl (by omega)];omega
     have w4:IntKind.i64.wrap ((y - 97:Nat):Int)=((y - 97:Nat):Int):=wrap64 (by omega);have w7:IntKind.i64.wrap (((y - 97:Nat):Int)+10)=((dg:Nat):Int):=by rw[wrap64 (by omega)];omega
     have hno:(if(48:Int)<=(x:Nat)then decide (((x:Nat):Int)<=57)else false)=false:=by
      split
      ·simp;omega
      ·rfl
     by_cases h48:(48:Int)<=(x:Nat)
     ·have d2:¬((x:Nat):Int)<=57:=by omega
      by_cases hbd:dg<base
      ·have d3:¬(base:Int)<=(dg:Nat):=by omega
       have w5:IntKind.i64.wrap ((n:Int)* (base:Int))=((n* base:Nat):Int):=by rw[wrap64 (by rcases hbase with rfl|rfl<;>omega)];rfl
       have w6:IntKind.i64.wrap (((n* base:Nat):Int)+(dg:Int))=((n* base+dg:Nat):Int):=wr64 (by rcases hbase with rfl|rfl<;>omega);simp only[hm,hg,hx,hdg,hbd,if_true,outS];simp only[zar,go_sem,simprocAttr,hb2,hdn,hset,hx,hor,zal,zak,zaf,zap,zaj,zb6 r hr,zai,zdo,hg,za3,c1,c2,c3,h48,d2,d3,d5,d6,w1,w2,w3,w4,w5,w6,w7,wdq,wbo,zah r hlt,zag]
      ·have d3:(base:Int)<=(dg:Nat):=by omega
       simp only[hm,hg,hx,hdg,hbd,if_true,if_false,outS];simp only[zar,go_sem,simprocAttr,hb2,hdn,hset,hx,hor,zal,zak,zaf,zap,zaj,zb6 r hr,zai,zdo,hg,za3,c1,c2,c3,h48,d2,d3,d5,d6,w1,w2,w3,w4,w7,wdq,wbo,zah r hlt,zag]
     ·by_cases hbd:dg<base
      ·have d3:¬(base:Int)<=(dg:Nat):=by omega
       have w5:IntKind.i64.wrap ((n:Int)* (base:Int))=((n* base:Nat):Int):=by rw[wrap64 (by rcases hbase with rfl|rfl<;>omega)];rfl
       have w6:IntKind.i64.wrap (((n* base:Nat):Int)+(dg:Int))=((n* base+dg:Nat):Int):=wr64 (by rcases hbase with rfl|rfl<;>omega);simp only[hm,hg,hx,hdg,hbd,if_true,outS];simp only[zar,go_sem,simprocAttr,hb2,hdn,hset,hx,hor,zal,zak,zaf,zap,zaj,zb6 r hr,zai,zdo,hg,za3,c1,c2,c3,h48,d3,d5,d6,w1,w2,w3,w4,w5,w6,w7,wdq,wbo,zah r hlt,zag]
      ·have d3:(base:Int)<=(dg:Nat):=by omega
       simp only[hm,hg,hx,hdg,hbd,if_true,if_false,outS];simp only[zar,go_sem,simprocAttr,hb2,hdn,hset,hx,hor,zal,zak,zaf,zap,zaj,zb6 r hr,zai,zdo,hg,za3,c1,c2,c3,h48,d3,d5,d6,w1,w2,w3,w4,w7,wdq,wbo,zah r hlt,zag]
    ·have hbd:¬dg<base:=by rcases hbase with rfl|rfl<;>omega
     have d3:(base:Int)<=(base:Int):=Int.le_refl _;have hge:((base:Int)<=base)=True:=eq_true d3;simp only[hm,hg,hx,hdg,hbd,if_true,if_false,outS];by_cases h48:(48:Int)<=(x:Nat)<;>by_cases h97:(97:Int)<=(y:Nat)
     ·have d2:¬((x:Nat):Int)<=57:=by omega
      have d6:¬((y:Nat):Int)<=102:=by omega
      simp only[zar,go_sem,simprocAttr,hb2,hdn,hset,hx,hor,zal,zak,zaf,zap,zaj,zb6 r hr,zai,zdo,hg,za3,c1,c2,c3,h48,h97,d2,d6,hge,w1,w2,wdq,wbo,zah r hlt,zag]
     ·have d2:¬((x:Nat):Int)<=57:=by omega
      simp only[zar,go_sem,simprocAttr,hb2,hdn,hset,hx,hor,zal,zak,zaf,zap,zaj,zb6 r hr,zai,zdo,hg,za3,c1,c2,c3,h48,h97,d2,hge,w1,w2,wdq,wbo,zah r hlt,zag]
     ·have d6:¬((y:Nat):Int)<=102:=by omega
      simp only[zar,go_sem,simprocAttr,hb2,hdn,hset,hx,hor,zal,zak,zaf,zap,zaj,zb6 r hr,zai,zdo,hg,za3,c1,c2,c3,h48,h97,d6,hge,w1,w2,wdq,wbo,zah r hlt,zag]
     ·simp only[zar,go_sem,simprocAttr,hb2,hdn,hset,hx,hor,zal,zak,zaf,zap,zaj,zb6 r hr,zai,zdo,hg,za3,c1,c2,c3,h48,h97,hge,w1,w2,wdq,wbo,zah r hlt,zag]
   ·have c3:¬(many:Int)<most:=by omega
    simp only[hm,if_false,outS];simp only[zar,go_sem,simprocAttr,hb2,hdn,zal,zak,zaf,zap,zaj,c1,c3,wbo,zah r hlt,zag]
  ·have hg:s[j]?=none:=wb8 (by omega)
   have c1:s.length<=j:=by omega
   have hif:(if many<most then(Sum.inr (n,j):(Nat×Nat×Nat) ⊕ (Nat×Nat))else .inr (n,j))=.inr (n,j):=by split<;>rfl
   simp only[hg,hif,outS];simp only[zar,go_sem,simprocAttr,hb2,hdn,zal,zak,zaf,zap,zaj,c1,wbo,zah r hlt,zag]
 ·simp only[go_sem,simprocAttr,zal,zak,wbo,zah r hlt]
 ·obtain⟨h1,h2,h3⟩:=hj
  unfold numT at h;dsimp only at h h1 h2 h3;split at h
  ·split at h
   ·rename_i c hc
    have:=(qg hc).1;split at h
    ·rename_i hdg
     cases h;refine⟨⟨by(try dsimp only);omega,by(try dsimp only);omega,?_⟩,by(try dsimp only);omega⟩;dsimp only;rw[wdr];obtain⟨p,hp⟩:∃p,16^many=p:=⟨_,rfl⟩;rw[hp]at h3⊢;rcases hbase with rfl|rfl<;>omega
    ·cases h
   ·cases h
  ·cases h
theorem z5f(HP:zcz lib){bx:zae}{r:List (Nat×Nat)}{b e:Nat}{s:Str}{k:Nat}(hb:bx[b]?=some (e,rd s k))(hs:s.length<=1000000000)(hk:k<=s.length)(hr:∀q∈r,q≠(b,1))(hlt:∀q∈r,q.1<bx.length):
 match oneE (s.drop k)with
 |some (x,c)=>evW code lib 199 [.ptr b 0] bx (cl r)=some ([.flat (.string (S x)),.flat (.bool true)],false,bx.set b (e,rd s (k+c)),cl r)
 |none=>∃k',k'<=s.length/\evW code lib 199 [.ptr b 0] bx (cl r)=some ([.flat (.string (S [])),.flat (.bool false)],false,bx.set b (e,rd s k'),cl r):=by
 have hblt:b<bx.length:=(qg hb).1;have tt:∀w:Str,w.length<=10->w.isPrefixOf (s.drop k)=true->evW code lib 159 [.ptr b 0,.flat (.string (S w))] bx (cl r)=some ([.flat (.bool true)],false,bx.set b (e,rd s (k+w.length)),cl r):=fun w hw h=>yqg HP w hb hs (by omega) hk hr hlt h
 have tf:∀w:Str,w.length<=10->w.isPrefixOf (s.drop k)=false->evW code lib 159 [.ptr b 0,.flat (.string (S w))] bx (cl r)=some ([.flat (.bool false)],false,bx,cl r):=fun w hw h=>yqf HP w hb hs (by omega) hk hr hlt h
 have num:∀(w:Str)(base most:Nat),base=16\/base=10->most<=7->w.isPrefixOf (s.drop k)=true->match numE base most (s.drop (k+w.length))with
  |some (x,c)=>evW code lib 224 [.ptr b 0,.flat (.int .i64 (base:Nat)),.flat (.int .i64 (most:Nat))] (bx.set b (e,rd s (k+w.length))) (cl r)=some ([.flat (.string (S x)),.flat (.bool true)],false,bx.set b (e,rd s (k+w.length+c)),cl r)
  |none=>∃k',k'<=s.length/\evW code lib 224 [.ptr b 0,.flat (.int .i64 (base:Nat)),.flat (.int .i64 (most:Nat))] (bx.set b (e,rd s (k+w.length))) (cl r)=some ([.flat (.string (S [])),.flat (.bool false)],false,bx.set b (e,rd s k'),cl r):=fun w base most h1 h2 h3=>by
  have hl:=zgo h3;rw[wbc]at hl;have:=yhg (lib:=lib) HP (bx:=bx.set b (e,rd s (k+w.length))) (r:=r) (b:=b) (e:=e) (s:=s) (k:=k+w.length) (base:=base) (most:=most) (wbp hblt) hs (by omega) hr (by rw[wbo];exact hlt) h1 h2;simp only[wcb]at this;exact this
 have hsame:=zjt hb;unfold oneE;cases h1:([38,97,109,112,59]:Str).isPrefixOf (s.drop k)with
 |true=>
  have t1:=tt _ (by decide) h1;rw[if_pos rfl];refine zab zau (qa rfl) ?_;simp only[waf,wdb,wbx]at t1;simp only[go_sem,simprocAttr,mk_S,t1,zal,zak,zaf,zap,zaj,zah r hlt,wbo,zag]
 |false=>
 have t1:=tf _ (by decide) h1;rw[if_neg (by simp)];cases h2:([38,108,116,59]:Str).isPrefixOf (s.drop k)with
 |true=>
  have t2:=tt _ (by decide) h2;rw[if_pos rfl];refine zab zau (qa rfl) ?_;simp only[waf,wdb,wbx]at t2;simp only[go_sem,simprocAttr,mk_S,t1,t2,zal,zak,zaf,zap,zaj,zah r hlt,wbo,zag]
 |false=>
 have t2:=tf _ (by decide) h2;rw[if_neg (by simp)];cases h3:([38,103,116,59]:Str).isPrefixOf (s.drop k)with
 |true=>
  have t3:=tt _ (by decide) h3;rw[if_pos rfl];refine zab zau (qa rfl) ?_;simp only[waf,wdb,wbx]at t3;simp only[go_sem,simprocAttr,mk_S,t1,t2,t3,zal,zak,zaf,zap,zaj,zah r hlt,wbo,zag]
 |false=>
 have t3:=tf _ (by decide) h3;rw[if_neg (by simp)];cases h4:([38,113,117,111,116,59]:Str).isPrefixOf (s.drop k)with
 |true=>
  have t4:=tt _ (by decide) h4;rw[if_pos rfl];refine zab zau (qa rfl) ?_;simp only[waf,wdb,wbx]at t4;simp only[go_sem,simprocAttr,mk_S,t1,t2,t3,t4,zal,zak,zaf,zap,zaj,zah r hlt,wbo,zag]
 |false=>
 have t4:=tf _ (by decide) h4;rw[if_neg (by simp)];cases h5:([38,35,120]:Str).isPrefixOf (s.drop k)with
 |true=>
  have t5:=tt _ (by decide) h5;have n5:=num _ 16 6 (.inl rfl) (by decide) h5;rw[if_pos rfl];simp only[waf,wdb,wbx,Nat.reduceAdd,wde]at t5 n5;rw[wbd];cases hE:numE 16 6 (s.drop (k+3))with
  |some q=>
   obtain⟨x,c⟩:=q;rw[hE]at n5;simp only[wau];rw[show k+(3+c)=k+3+c by omega];refine zab zau (qa rfl) ?_;simp only[go_sem,simprocAttr,mk_S,t1,t2,t3,t4,t5,n5,zal,zak,zaf,zap,zaj,zah r hlt,wbo,zag]
  |none=>
   rw[hE]at n5;obtain⟨k',hk',n5⟩:=n5;simp only[wda];refine⟨k',hk',?_⟩;refine zab zau (qa rfl) ?_;simp only[go_sem,simprocAttr,mk_S,t1,t2,t3,t4,t5,n5,zal,zak,zaf,zap,zaj,zah r hlt,wbo,zag]
 |false=>
 have t5:=tf _ (by decide) h5;rw[if_neg (by simp)];cases h6:([38,35]:Str).isPrefixOf (s.drop k)with
 |true=>
  have t6:=tt _ (by decide) h6;have n6:=num _ 10 7 (.inr rfl) (by decide) h6;rw[if_pos rfl];simp only[waf,wdb,wbx,Nat.reduceAdd,wde]at t6 n6;rw[wbd];cases hE:numE 10 7 (s.drop (k+2))with
  |some q=>
   obtain⟨x,c⟩:=q;rw[hE]at n6;simp only[wau];rw[show k+(2+c)=k+2+c by omega];refine zab zau (qa rfl) ?_;simp only[go_sem,simprocAttr,mk_S,t1,t2,t3,t4,t5,t6,n6,zal,zak,zaf,zap,zaj,zah r hlt,wbo,zag]
  |none=>
   rw[hE]at n6;obtain⟨k',hk',n6⟩:=n6;simp only[wda];refine⟨k',hk',?_⟩;refine zab zau (qa rfl) ?_;simp only[go_sem,simprocAttr,mk_S,t1,t2,t3,t4,t5,t6,n6,zal,zak,zaf,zap,zaj,zah r hlt,wbo,zag]
 |false=>
 have t6:=tf _ (by decide) h6;rw[if_neg (by simp)];refine⟨k,hk,?_⟩;rw[hsame];refine zab zau (qa rfl) ?_;simp only[go_sem,simprocAttr,mk_S,t1,t2,t3,t4,t5,t6,zal,zak,zaf,zap,zaj,zah r hlt,zag]
theorem yah{n:Nat}{s:Str}{k:Nat}:lows n (rd s k)=true:=rfl
theorem ynt{b:Nat}{l:List PV}:bld false b [] l=PV.flat (.pointer none)::PV.slc 0 []::l:=rfl
theorem yut(HP:zcz lib)(HB:zgp lib){bx:zae}{r:List (Nat×Nat)}{b e:Nat}{s:Str}{k:Nat}{en bd:UInt8}(hb:bx[b]?=some (e,rd s k))(hlow:zbs bx.length bx=true)(hs:s.length<=100000000)(hk:k<=s.length)(hr:∀q∈r,q≠(b,1))(hlt:∀q∈r,q.1<bx.length):
 match zqf s en bd k with
 |some (x,p)=>evW code lib 164 [.ptr b 0,.flat (.int .u8 en.toNat),.flat (.int .u8 bd.toNat)] bx (cl r)=some ([.flat (.string (S x)),.flat (.bool true)],false,bx.set b (e,rd s p),cl r)
 |none=>∃k',k'<=s.length/\evW code lib 164 [.ptr b 0,.flat (.int .u8 en.toNat),.flat (.int .u8 bd.toNat)] bx (cl r)=some ([.flat (.string (S [])),.flat (.bool false)],false,bx.set b (e,rd s k'),cl r):=by
 have hblt:b<bx.length:=(qg hb).1;obtain⟨r',hr'⟩:∃r',r'=(bx.length,1)::r:=⟨_,rfl⟩;have hcl:Loc.cell bx.length 1::cl r=cl r':=by rw[hr'];rfl
 have hlt':∀q∈r',q.1<bx.length+1:=by rw[hr'];exact yuh (x:=(0,0)) hlt
 have hr'b:∀q∈r',q≠(b,1):=by
  rw[hr'];intro q hq;rcases waq.1 hq with rfl|hq
  ·exact fun h=>by have:=congrArg Prod.fst h;dsimp only at this;omega
  ·exact hr q hq
 have hnr:∀q∈r,q≠(bx.length,1):=fun q hq h=>by have:=hlt q hq;rw[h]at this;exact Nat.lt_irrefl _ this
 have hd:zer (Loc.cell bx.length 1) (cl r')=cl r:=by
  rw[hr'];show zer _ (Loc.cell bx.length 1::cl r)=_;simp only[zq4,and_self,if_true,zgn r hnr,ne_eq,not_true_eq_false,if_false]
 have hun:zbm bx.length (cl r')=cl r:=by
  rw[hr'];show zbm _ (Loc.cell bx.length 1::cl r)=_;simp only[zf9,Nat.lt_irrefl,if_false,zah r hlt]
 have hlt1:∀q∈r,q.1<bx.length+1:=fun q hq=>Nat.lt_succ_of_lt (hlt q hq)
 have hWS:∀(j:Nat)(x:Str)(u:Bool)(out:Str),out.length+x.length<=bound->evW code lib 47 [.ptr bx.length 0,.flat (.string (S x))] (bx.set b (e,rd s j)++[(59,bld u bx.length out [])]) (cl r')=some ([.flat (.int .i64 x.length),.flat .nilIface],false,bx.set b (e,rd s j)++[(59,bld true bx.length (out++x) [])],cl r'):=fun j x u out h=>by
  have:=zxd (lib:=lib) (r:=r) (m:=x) HB (ap_n (bx:=bx) (b:=b) (x:=(e,rd s j)) (q:=(59,bld u bx.length out []))) zzz h hnr (by rw[zky];exact hlt1);rw[zns,hcl]at this;exact this
 have hWB:∀(j:Nat)(x:UInt8)(u:Bool)(out:Str),out.length+1<=bound->evW code lib 84 [.ptr bx.length 0,.flat (.int .u8 x.toNat)] (bx.set b (e,rd s j)++[(59,bld u bx.length out [])]) (cl r')=some ([.flat .nilIface],false,bx.set b (e,rd s j)++[(59,bld true bx.length (out++[x]) [])],cl r'):=fun j x u out h=>by
  have:=yun (lib:=lib) (r:=r) (c:=x) HB (ap_n (bx:=bx) (b:=b) (x:=(e,rd s j)) (q:=(59,bld u bx.length out []))) zzz h hnr (by rw[zky];exact hlt1);rw[zns,hcl]at this;exact this
 have hrel:=zic (body:=evC (evW code lib) big zfb) (live:=[0,1,2,8]) (nb:=bx.length+1)
  (fun(u:Bool)(q:Str×Nat)=>(⟨[(0,.ptr b 0),(1,.flat (.int .u8 en.toNat)),(2,.flat (.int .u8 bd.toNat)),(8,.ptr bx.length 0)],cl r',[],bx.set b (e,rd s q.2)++[(59,bld u bx.length q.1 [])]⟩:St))
  (zrw s en bd) none (fun a o st=>match a with
    |some q=>o=.exit 0/\∃u,st=⟨[(8,.ptr bx.length 0)],cl r',[],bx.set b (e,rd s q.2)++[(59,bld u bx.length q.1 [])]⟩
    |none=>o=.ret/\∃k' y,k'<=s.length/\st=⟨[(6,.flat (.string (S []))),(7,.flat (.bool false))],cl r',[],bx.set b (e,rd s k')++[y]⟩)
  (fun a=>a.2<=s.length/\k<=a.2/\a.1.length<=4* (a.2 - k)) (fun a=>s.length - a.2) (fun u ⟨out,j⟩ hi=>?_) (fun u ⟨out,j⟩ hi=>?_) (fun a c hi h=>z2g k a c hi h) (n:=s.length+1) (m:=big) false ([],k) ⟨hk,wab _,by simp⟩ (by dsimp only;omega) (by unfold big;dsimp only;omega)
 ·obtain⟨o,st,hl,hq⟩:=hrel
  have hsaysE:runS (zrw s en bd) none (s.length+1) ([],k)=zqf s en bd k:=rfl;rw[hsaysE]at hq;dsimp only at hl;rw[zjt hb,ynt]at hl;cases hE:zqf s en bd k with
  |some q=>
   obtain⟨x,p⟩:=q;rw[hE]at hq;obtain⟨rfl,u,rfl⟩:=hq;dsimp only at hl⊢;have hst:=ycv (lib:=lib) (oc:=cl r') (u:=u) (l:=x) (rest:=[]) HB (ap_n (bx:=bx) (b:=b) (x:=(e,rd s p)) (q:=(59,bld u bx.length x []))) (by rw[hr'];exact wcy);have hlo:=ygu (b:=b) (q:=(e,rd s p)) yah hlow;refine zab zhj (qa rfl) ?_;simp(maxSteps:=999999) (disch:=first|assumption|omega) only[go_sem,simprocAttr,au,hcl,hl,hst,hd,hlo,yah,zky,ygv,wb0]
  |none=>
   rw[hE]at hq;obtain⟨rfl,k',y,hk',rfl⟩:=hq;dsimp only at hl⊢;have hlo:=ygu (b:=b) (q:=(e,rd s k')) yah hlow;refine⟨k',hk',?_⟩;refine zab zhj (qa rfl) ?_;simp(maxSteps:=999999) (disch:=first|assumption|omega) only[go_sem,simprocAttr,au,hcl,hl,hun,hlo,yah,zky,ygv,wb0]
 ·
  dsimp only at hi;have hdn:=z2i (lib:=lib) (r:=r') (ap_b (x:=(e,rd s j)) (q:=(59,bld u bx.length out [])) hblt) (by rw[zky];exact hlt');dsimp only;by_cases hlt1:j<s.length
  ·have hg:s[j]?=some s[j]:=qe hlt1
   obtain⟨c,hc⟩:∃c,s[j]=c:=⟨_,rfl⟩;rw[hc]at hg;unfold zrw;simp only[hg];by_cases h1:c=en
   ·rw[if_pos h1]
    have h1':=congrArg UInt8.toNat h1;refine⟨.exit 0,⟨[(8,.ptr bx.length 0)],cl r',[],bx.set b (e,rd s j)++[(59,bld u bx.length out [])]⟩,?_,by simp,rfl,u,rfl⟩;simp only[rd,wd1,wd2]at hdn⊢;simp(maxSteps:=999999) (disch:=first|assumption|omega) only[go_sem,simprocAttr,au,zb0,hdn,hg,ap_b,ap_n,znr,zns,zky]
   ·rw[if_neg h1]
    have h1':(c.toNat=en.toNat)=False:=eq_false fun h=>h1 (wdv.1 h)
    by_cases h2:c=bd
    ·rw[if_pos h2]
     have h2':(c.toNat=bd.toNat)=True:=eq_true (congrArg UInt8.toNat h2);refine⟨.ret,⟨[(6,.flat (.string (S []))),(7,.flat (.bool false))],cl r',[],bx.set b (e,rd s j)++[(59,bld u bx.length out [])]⟩,?_,by simp,rfl,j,_,by omega,rfl⟩;simp only[rd,wd1,wd2]at hdn⊢;simp(maxSteps:=999999) (disch:=first|assumption|omega) only[go_sem,simprocAttr,au,zb0,hdn,hg,h1',h2',ap_b,ap_n,znr,zns,zky]
    ·rw[if_neg h2]
     have h2':(c.toNat=bd.toNat)=False:=eq_false fun h=>h2 (wdv.1 h)
     by_cases h3:c=38
     ·rw[if_pos h3]
      have h3':(c.toNat=38)=True:=eq_true (by rw[h3];rfl);have href:=z5f (lib:=lib) HP (r:=r') (ap_b (x:=(e,rd s j)) (q:=(59,bld u bx.length out [])) hblt) (by omega) (by omega:j<=s.length) hr'b (by rw[zky];exact hlt');cases hO:oneE (s.drop j)with
      |none=>
       rw[hO]at href;obtain⟨k',hk',href⟩:=href;rw[znr hblt]at href;dsimp only;refine⟨.ret,⟨[(6,.flat (.string (S []))),(7,.flat (.bool false))],cl r',[],bx.set b (e,rd s k')++[(59,bld u bx.length out [])]⟩,?_,by simp,rfl,k',_,hk',rfl⟩;simp only[rd,wd1,wd2]at hdn href⊢;simp(maxSteps:=999999) (disch:=first|assumption|omega) only[go_sem,simprocAttr,au,zb0,hdn,href,hg,h1',h2',h3',ap_b,ap_n,znr,zns,zky]
      |some q=>
       obtain⟨x,n⟩:=q;rw[hO]at href;dsimp only at href⊢;rw[znr hblt]at href;have hx:=z2f hO;rw[wbc]at hx;dsimp only at hx;have hw:=hWS (j+n) x u out (by unfold bound;omega);refine⟨true,?_⟩;simp only[rd,wd1,wd2]at hdn href hw⊢;simp(maxSteps:=999999) (disch:=first|assumption|omega) only[go_sem,simprocAttr,au,zb0,hdn,href,hw,hg,h1',h2',h3',ap_b,ap_n,znr,zns,zky]
     ·rw[if_neg h3]
      have h3':(c.toNat=38)=False:=eq_false fun h=>h3 (wdv.1 h)
      have hw:=hWB j c u out (by unfold bound;omega);refine⟨true,?_⟩;simp only[rd,wd1,wd2]at hdn hw⊢;simp(maxSteps:=999999) (disch:=first|assumption|omega) only[go_sem,simprocAttr,au,zb0,hdn,hw,hg,h1',h2',h3',ap_b,ap_n,znr,zns,zky]
  ·have hg:s[j]?=none:=wb8 (by omega)
   unfold zrw;simp only[hg];refine⟨.exit 0,⟨[(8,.ptr bx.length 0)],cl r',[],bx.set b (e,rd s j)++[(59,bld u bx.length out [])]⟩,?_,by simp,rfl,u,rfl⟩;simp only[rd,wd1,wd2]at hdn⊢;simp(maxSteps:=999999) (disch:=first|assumption|omega) only[go_sem,simprocAttr,au,zb0,hdn,hg,ap_b,ap_n,znr,zns,zky]
 ·simp(maxSteps:=999999) (disch:=first|assumption|omega) only[go_sem,simprocAttr,au,zky]
theorem z2k{s:Str}{fin:Unit->Out×St}{g:Nat->Out×St}:∀(L:List Str)(k:Nat),(L.contains s=false/\zi8 (fun(_:Unit) k x=>if x=s then .inr (g k)else .inl ()) fin () k L=fin ())\/(L.contains s=true/\∃j,j<k+L.length/\zi8 (fun(_:Unit) k x=>if x=s then .inr (g k)else .inl ()) fin () k L=g j)
 |[],k=>.inl ⟨rfl,rfl⟩
 |x::t,k=>by
  rw[zi8,List.contains_cons];by_cases h:x=s
  ·subst h
   refine .inr ⟨by simp,k,by simp,by rw[if_pos rfl]⟩
  ·rw[if_neg h]
   dsimp only;have hb:(s==x)=false:=by simpa using fun e=>h e.symm
   rw[hb,wcx];rcases z2k (fin:=fin) (g:=g) t (k+1)with h1|⟨h1,j,h2,h3⟩
   ·exact .inl h1
   ·exact .inr ⟨h1,j,by simp only[waf];omega,h3⟩
theorem ynu(L:List Str)(s:Str)(hL:L.length<=1000000):∃i:Int,(L.contains s=decide (0<=i))/\evW code lib 221 [.slc L.length (zaq L),.flat (.string (S s))] [] []=some ([.flat (.int .i64 i)],false,[],[]):=by
 have hloop:=zl5 (body:=evC (evW code lib) big zcs) (live:=[0,1,7,8]) (nb:=0) (fun(_:Unit) k=>⟨[(0,.slc L.length (zaq L)),(1,.flat (.string (S s))),(7,.flat (.int .i64 (L.length:Nat))),(8,.flat (.int .i64 (k:Nat)))],[],[],[]⟩) L (fun _ _=>True)
  (fun _ k x=>if x=s then .inr (.ret,⟨[(4,.flat (.int .i64 (k:Nat)))],[],[],[]⟩)else .inl ()) (fun _=>(.exit 0,⟨[],[],[],[]⟩)) (fun _ k x _ hk hc hd=>?_) (fun _ _=>by simp only[go_sem,simprocAttr]) (fun _ _ _ _ _ _ _ _=>trivial) (fun _ _ x r h=>by split at h<;>simp at h;rw[<-h];simp) (fun _ _=>?_) (fun _=>by simp) () trivial (by unfold big;omega)
 ·simp only[n0]at hloop
  rcases z2k (s:=s) (fin:=fun _=>(.exit 0,⟨[],[],[],[]⟩)) (g:=fun k=>(.ret,⟨[(4,.flat (.int .i64 (k:Nat)))],[],[],[]⟩)) L 0 with⟨h1,h2⟩|⟨h1,j,h2,h3⟩
  ·rw[h2]at hloop
   refine⟨-1,by rw[h1];rfl,?_⟩;refine zab zd0 (qa rfl) ?_;have hm:Int.negSucc 0=-1:=rfl;simp(maxSteps:=999999) (disch:=first|assumption|omega) only[go_sem,simprocAttr,au,hloop,zam,hm]
  ·rw[h3]at hloop
   refine⟨j,by rw[h1];simp,?_⟩;refine zab zd0 (qa rfl) ?_;simp(maxSteps:=999999) (disch:=first|assumption|omega) only[go_sem,simprocAttr,au,hloop,zam]
 ·have hsc:(zaq L)[k]?=some (.flat (.string (S x))):=by simp only[zaq,wbu,hc,wau]
  have hsd:(zaq L).drop k=.flat (.string (S x))::(zaq L).drop (k+1):=by
   rw[wcm (by rw[zam];exact hk)];rw[qe (by rw[zam];exact hk),war]at hsc;rw[hsc]
  by_cases h:x=s
  ·have h':(s=x)=True:=eq_true h.symm
   rw[if_pos h];simp(maxSteps:=999999) (disch:=first|assumption|omega) only[go_sem,simprocAttr,au,zch,hsc,hsd,h',zam]
  ·have h':(s=x)=False:=eq_false fun e=>h e.symm
   rw[if_neg h];simp(maxSteps:=999999) (disch:=first|assumption|omega) only[go_sem,simprocAttr,au,zch,hsc,hsd,h',zam]
 ·simp(maxSteps:=999999) (disch:=first|assumption|omega) only[go_sem,simprocAttr,au,zch]
theorem zxh(L:List Str)(s:Str)(hL:L.length<=1000000):evW code lib 194 [.slc L.length (zaq L),.flat (.string (S s))] [] []=some ([.flat (.bool (L.contains s))],false,[],[]):=by
 obtain⟨i,h1,h2⟩:=ynu (lib:=lib) L s hL;refine zab zf7 (qa rfl) ?_;rw[h1];simp(maxSteps:=999999) (disch:=first|assumption|omega) only[go_sem,simprocAttr,au,h2,zbh]
theorem zz4(s:Str):evW code lib 162 [.flat (.string (S s))] [] []=some ([.flat (.bool (zfi.contains s))],false,[],[]):=by
 have h:=zxh (lib:=lib) zfi s (by decide);obtain⟨v,hv⟩:∃v,zfi.contains s=v:=⟨_,rfl⟩;rw[hv]at h⊢;simp only[zaq,zfi,wax,wc7,waf,wdb,wbx,Nat.reduceAdd]at h;refine zab zst (qa rfl) ?_;simp only[go_sem,simprocAttr,mk_S,h]
theorem z5g(s:Str):evW code lib 222 [.flat (.string (S s))] [] []=some ([.flat (.bool (znv.contains s))],false,[],[]):=by
 have h:=zxh (lib:=lib) znv s (by decide);obtain⟨v,hv⟩:∃v,znv.contains s=v:=⟨_,rfl⟩;rw[hv]at h⊢;simp only[zaq,znv,wax,wc7,waf,wdb,wbx,Nat.reduceAdd]at h;refine zab zqa (qa rfl) ?_;simp only[go_sem,simprocAttr,mk_S,h]
theorem yuu(s:Str):evW code lib 109 [.flat (.string (S s))] [] []=some ([.flat (.bool (zqg s))],false,[],[]):=by
 refine zab zyn (qa rfl) ?_;unfold zqg;rcases wd3 (s=[98,114])with h1|h1<;>rcases wd3 (s=[104,114])with h2|h2<;>rcases wd3 (s=[105,109,103])with h3|h3
 all_goals
  first|have h1':=eq_false h1|have h1':=eq_true h1
  first|have h2':=eq_false h2|have h2':=eq_true h2
  first|have h3':=eq_false h3|have h3':=eq_true h3
  clear h1 h2 h3;simp(maxSteps:=999999) (disch:=first|assumption|omega) only[go_sem,simprocAttr,au,h1',h2',h3']
end Nun
section
namespace Nun
open Go Go.RowKit Go.Proofs Go.Proofs.YtmpiobfdchlikaaGreatDoor
variable {lib:Callee}
structure RdAt (B:Nat→zae) (n b e:Nat) (s:Str) (r:List (Nat × Nat)):Prop where
 len:∀ j,(B j).length=n
 get:∀ j,(B j)[b]? =some (e,rd s j)
 set:∀ i j,(B j).set b (e,rd s i)=B i
 lt:b<n
 low:∀ j,zbs n (B j)=true
 hs:s.length≤100000000
 hr:∀ q∈r,q≠(b,1)
 hlt:∀ q∈r,q.1<n
section
variable {B:Nat→zae} {n b e:Nat} {s:Str} {r:List (Nat × Nat)}
theorem RdAt.app(H:RdAt B n b e s r){m:Nat}(ys:zae)(hm:n+ys.length=m)(hl:zbs m ys=true):RdAt (fun j=>B j++ys) m b e s r where
 len j:=by rw[wb0,H.len];exact hm
 get j:=by rw[waa (by rw[H.len];exact H.lt),H.get]
 set i j:=by rw[wdk _ _ (by rw[H.len];exact H.lt),H.set]
 lt:=by have:=H.lt;omega
 low j:=by rw[zw8,zkz (by omega) _ (H.low j),hl];rfl
 hs:=H.hs
 hr:=H.hr
 hlt q hq:=by have:=H.hlt q hq;omega
theorem RdAt.a_get(H:RdAt B n b e s r)(j:Nat)(ys:zae):(B j++ys)[b]?=some (e,rd s j):=by rw[waa (by rw[H.len];exact H.lt),H.get]
theorem RdAt.a_0(H:RdAt B n b e s r)(j:Nat)(ys:zae):(B j++ys)[n]?=ys[0]?:=by rw[wbr (by rw[H.len];omega),H.len,wch]
theorem RdAt.a_1(H:RdAt B n b e s r)(j i:Nat)(ys:zae):(B j++ys)[n+i]?=ys[i]?:=by rw[wbr (by rw[H.len];omega),H.len,wbs]
theorem RdAt.a_set(H:RdAt B n b e s r)(i j:Nat)(ys:zae):(B j++ys).set b (e,rd s i)=B i++ys:=by rw[wdk _ _ (by rw[H.len];exact H.lt),H.set]
theorem RdAt.a_s0(H:RdAt B n b e s r)(j:Nat)(ys:zae)(q:Nat×List PV):(B j++ys).set n q=B j++ys.set 0 q:=by rw[wa1 _ _ (by rw[H.len];omega),H.len,wch]
theorem RdAt.a_s1(H:RdAt B n b e s r)(j i:Nat)(ys:zae)(q:Nat×List PV):(B j++ys).set (n+i) q=B j++ys.set i q:=by rw[wa1 _ _ (by rw[H.len];omega),H.len,wbs]
theorem RdAt.a_len(H:RdAt B n b e s r)(j:Nat)(ys:zae):(B j++ys).length=n+ys.length:=by rw[wb0,H.len]
theorem RdAt.a_take(H:RdAt B n b e s r)(j:Nat)(ys:zae):(B j++ys).take n=B j:=by rw[wcz (by rw[H.len];omega),wco (by rw[H.len];omega)]
theorem RdAt.a_take1(H:RdAt B n b e s r)(j i:Nat)(ys:zae):(B j++ys).take (n+i)=B j++ys.take i:=by
 rw[List.take_append,H.len,wbs,wco (by rw[H.len];omega)]
theorem RdAt.d_0(H:RdAt B n b e s r)(o m:Nat):zev n o m (cl r)=cl r:=zom r H.hlt
theorem RdAt.d_1(H:RdAt B n b e s r)(i o m:Nat):zev (n+i) o m (cl r)=cl r:=zom r fun q hq=>by have:=H.hlt q hq;omega
theorem RdAt.u_0(H:RdAt B n b e s r):zbm n (cl r)=cl r:=zah r H.hlt
theorem RdAt.u_1(H:RdAt B n b e s r)(i:Nat):zbm (n+i) (cl r)=cl r:=zah r fun q hq=>by have:=H.hlt q hq;omega
theorem RdAt.done(H:RdAt B n b e s r)(k:Nat):evW code lib 107 [.ptr b 0] (B k) (cl r)=some ([.flat (.bool (decide (s.length<=k)))],false,B k,cl r):=
 z2i (H.get k) (by rw[H.len];exact H.hlt)
theorem RdAt.take(H:RdAt B n b e s r)(HP:zcz lib)(w:Str){k:Nat}(hk:k<=s.length)(hw:w.length<=1000000000):evW code lib 159 [.ptr b 0,.flat (.string (S w))] (B k) (cl r)=some ([.flat (.bool (w.isPrefixOf (s.drop k)))],false,B (if w.isPrefixOf (s.drop k)then k+w.length else k),cl r):=by
 have:=H.hs;have h:=z78 HP (w:=w) (H.get k) (by omega) hw hk H.hr (by rw[H.len];exact H.hlt);rw[H.set]at h;exact h
theorem RdAt.word(H:RdAt B n b e s r){k:Nat}(hk:k<=s.length):evW code lib 160 [.ptr b 0,.clo 161 []] (B k) (cl r)=some ([.flat (.string (S (zcm s k)))],false,B (k+(zcm s k).length),cl r):=by
 have:=H.hs;have h:=yag (lib:=lib) (f:=161) (p:=letB) (H.get k) (by omega) hk H.hr (by rw[H.len];exact H.hlt) (by decide) yhe;rw[H.set]at h;exact h
theorem RdAt.gap(H:RdAt B n b e s r){k:Nat}(hk:k<=s.length):evW code lib 160 [.ptr b 0,.clo 195 []] (B k) (cl r)=some ([.flat (.string (S (gapE s k)))],false,B (k+(gapE s k).length),cl r):=by
 have:=H.hs;have h:=yag (lib:=lib) (f:=195) (p:=zrx) (H.get k) (by omega) hk H.hr (by rw[H.len];exact H.hlt) (by decide) ynr;rw[H.set]at h;exact h
theorem RdAt.says(H:RdAt B n b e s r)(HP:zcz lib)(HB:zgp lib){k:Nat}{en bd:UInt8}(hk:k<=s.length):
 match zqf s en bd k with
 |some (x,p)=>evW code lib 164 [.ptr b 0,.flat (.int .u8 en.toNat),.flat (.int .u8 bd.toNat)] (B k) (cl r)=some ([.flat (.string (S x)),.flat (.bool true)],false,B p,cl r)
 |none=>∃k',k'<=s.length/\evW code lib 164 [.ptr b 0,.flat (.int .u8 en.toNat),.flat (.int .u8 bd.toNat)] (B k) (cl r)=some ([.flat (.string (S [])),.flat (.bool false)],false,B k',cl r):=by
 have h:=yut (lib:=lib) (en:=en) (bd:=bd) HP HB (H.get k) (by rw[H.len];exact H.low k) H.hs hk H.hr (by rw[H.len];exact H.hlt);simp only[H.set]at h;exact h
end
theorem zkh{s:Str}{k:Nat}(h:k<=s.length):k+(zcm s k).length<=s.length:=by
 have:=(wd7 letB (l:=s.drop k)).length_le;rw[wbc]at this;unfold zcm;omega
theorem z5h{s:Str}{k:Nat}(h:k<=s.length):k+(gapE s k).length<=s.length:=by
 have:=(wd7 zrx (l:=s.drop k)).length_le;rw[wbc]at this;unfold gapE;omega
theorem yuv{s:Str}{k:Nat}{c:UInt8}:([c]:Str).isPrefixOf (s.drop k)=decide (s[k]?=some c):=by
 have hg:s[k]?=(s.drop k)[0]?:=by rw[wal,wa6]
 rw[hg];cases s.drop k with
 |nil=>rfl
 |cons a t=>
  simp only[List.isPrefixOf,wbi,wbl,war];by_cases h:c=a
  ·subst h;simp
  ·have h2:¬a=c:=fun e=>h e.symm
   simp[h,h2]
def zbx(a:Att):List PV:=[.flat (.string (S a.name)),.flat (.string (S a.val)),.flat (.int .i64 (a.fr:Nat)),.flat (.int .i64 (a.to:Nat))]
theorem yuw{B:Nat->zae}{n b e:Nat}{s:Str}{r:List (Nat×Nat)}(H:RdAt B n b e s r)(HP:zcz lib)(HB:zgp lib){k:Nat}(hk:k<=s.length):
 match attE s k with
 |some (a,p)=>evW code lib 196 [.ptr b 0] (B k) (cl r)=some ([.agg (zbx a),.flat (.bool true)],false,B p,cl r)
 |none=>∃a k',k'<=s.length/\evW code lib 196 [.ptr b 0] (B k) (cl r)=some ([.agg (zbx a),.flat (.bool false)],false,B k',cl r):=by
 have h0:=H.hs;have h1:=zkh hk;have hr1:=H.a_get;have hr2:=H.a_0;have hr3:=H.a_1;have hr4:=H.a_set;have hr5:=H.a_s0;have hr6:=H.a_s1;have hr7:=H.a_len;have hr8:=H.a_take;have hr9:=H.a_take1;have hrl:=H.len;have hlow:=H.low;have hd0:=H.d_0;have hd1:=H.d_1;have hu0:=H.u_0;have hu1:=H.u_1;have hz:(⟨#[]⟩:ByteArray)=S []:=rfl;have K2:∀A4 A2,zbs (n+2) [A2,A4]=true->RdAt (fun j=>B j++[A2,A4]) (n+2) b e s r:=fun A4 A2 h=>H.app _ rfl h
 have K1:∀A2,zbs (n+1) [A2]=true->RdAt (fun j=>B j++[A2]) (n+1) b e s r:=fun A2 h=>H.app _ rfl h
 have hw:=(K1 (214,[.flat (.string (S [])),.flat (.string (S [])),.flat (.int .i64 0),.flat (.int .i64 0)]) rfl).word (lib:=lib) hk;have ha:=z5g (lib:=lib) (zcm s k);unfold attE;obtain⟨w,hwd⟩:∃w,zcm s k=w:=⟨_,rfl⟩;rw[hwd]at hw ha h1⊢;cases hc:znv.contains w with
 |false=>
  rw[hc]at ha;refine⟨⟨w,[],0,0⟩,k+w.length,h1,?_⟩;refine zab zct (qa rfl) ?_;simp(maxSteps:=999999) (disch:=first|assumption|omega) only[go_sem,simprocAttr,au,hz,hw,ha,hr1,hr2,hr3,hr4,hr5,hr6,hr7,hr8,hr9,hrl,hlow,hd0,hd1,hu0,hu1,rd,zbx]
 |true=>
  rw[hc]at ha;obtain⟨k1,hk1⟩:∃k1,k+w.length=k1:=⟨_,rfl⟩;rw[hk1]at hw h1⊢;obtain⟨k2,hk2⟩:∃k2,k1+2=k2:=⟨_,rfl⟩;have hT:=(K2 (214,[.flat (.string (S w)),.flat (.string (S [])),.flat (.int .i64 0),.flat (.int .i64 0)]) (214,[.flat (.string (S [])),.flat (.string (S [])),.flat (.int .i64 0),.flat (.int .i64 0)]) rfl).take (lib:=lib) HP [61,34] h1 (by decide);have hbu:zav s [61,34] k1=([61,34]:Str).isPrefixOf (s.drop k1):=by unfold zav;simp only[h1,decide_true,wbh,if_true]
  rw[hbu];cases hp:([61,34]:Str).isPrefixOf (s.drop k1)with
  |false=>
   rw[hp]at hT;simp only[wbf,if_false]at hT;refine⟨⟨w,[],0,0⟩,k1,h1,?_⟩;refine zab zct (qa rfl) ?_;simp(maxSteps:=999999) (disch:=first|assumption|omega) only[go_sem,simprocAttr,au,hz,hw,ha,hT,hr1,hr2,hr3,hr4,hr5,hr6,hr7,hr8,hr9,hrl,hlow,hd0,hd1,hu0,hu1,rd,zbx]
  |true=>
   rw[hp]at hT;have hpl:=zgo hp;rw[wbc]at hpl;simp only[if_true,waf,wdb,wbx,Nat.reduceAdd,hk2]at hT hpl⊢;have h2:k2<=s.length:=by omega
   have hS:=(K2 (214,[.flat (.string (S w)),.flat (.string (S [])),.flat (.int .i64 (k2:Nat)),.flat (.int .i64 0)]) (214,[.flat (.string (S [])),.flat (.string (S [])),.flat (.int .i64 0),.flat (.int .i64 0)]) rfl).says (lib:=lib) (en:=34) (bd:=60) HP HB h2;have e34:((UInt8.toNat 34:Nat):Int)=34:=rfl;have e60:((UInt8.toNat 60:Nat):Int)=60:=rfl;rw[e34,e60]at hS;cases hE:zqf s 34 60 k2 with
   |none=>
    rw[hE]at hS;obtain⟨k',hk',hS⟩:=hS;refine⟨⟨w,[],k2,k'⟩,k',hk',?_⟩;refine zab zct (qa rfl) ?_;simp(maxSteps:=999999) (disch:=first|assumption|omega) only[go_sem,simprocAttr,au,hz,hw,ha,hT,hS,hr1,hr2,hr3,hr4,hr5,hr6,hr7,hr8,hr9,hrl,hlow,hd0,hd1,hu0,hu1,rd,zbx]
   |some q=>
    obtain⟨v,p⟩:=q;rw[hE]at hS;have hel:=zk6 h2 hE;dsimp only at hS hel⊢;have hQ:=(K2 (214,[.flat (.string (S w)),.flat (.string (S v)),.flat (.int .i64 (k2:Nat)),.flat (.int .i64 (p:Nat))]) (214,[.flat (.string (S [])),.flat (.string (S [])),.flat (.int .i64 0),.flat (.int .i64 0)]) rfl).take (lib:=lib) HP [34] hel.2.1 (by decide);rw[yuv]at hQ;by_cases hpl2:p<s.length
    ·have hsp:(s[p]?=some 34)=True:=by
      rcases hel.2.2.2 with h|h
      ·rw[qe hpl2]at h;cases h
      ·exact eq_true h
     simp only[hsp,decide_true,if_true,waf,wdb,wbx]at hQ;simp only[wc4,if_true,hpl2];refine zab zct (qa rfl) ?_;simp(maxSteps:=999999) (disch:=first|assumption|omega) only[go_sem,simprocAttr,au,hz,hw,ha,hT,hS,hQ,hr1,hr2,hr3,hr4,hr5,hr6,hr7,hr8,hr9,hrl,hlow,hd0,hd1,hu0,hu1,rd,zbx,zwa]
    ·have hsp:(s[p]?=some 34)=False:=eq_false (by rw[wb8 (by omega)];exact fun h=>by cases h)
     simp only[hsp,decide_false,wbf,if_false]at hQ;simp only[wc4,if_true,hpl2,if_false];refine⟨⟨w,v,k2,p⟩,p,by omega,?_⟩;refine zab zct (qa rfl) ?_;simp(maxSteps:=999999) (disch:=first|assumption|omega) only[go_sem,simprocAttr,au,hz,hw,ha,hT,hS,hQ,hr1,hr2,hr3,hr4,hr5,hr6,hr7,hr8,hr9,hrl,hlow,hd0,hd1,hu0,hu1,rd,zbx,zwa]
end Nun
end
namespace Nun
open Go Go.RowKit Go.Proofs Go.Proofs.YtmpiobfdchlikaaGreatDoor
variable {lib:Callee}
def zbp(l:List Att):List PV:=l.flatMap zbx
theorem yhh{n:Nat}(a:Att):lows n (zbx a)=true:=rfl
theorem zbe:∀l:List Att,(zbp l).length=l.length* 4
 |[]=>rfl
 |a::l=>by
  show(zbx a++zbp l).length=_;rw[wb0,zbe l,waf];show 4+_=_;omega
theorem z2l{n:Nat}:∀{a b:List PV},lows n (a++b)=(lows n a&&lows n b)
 |[],b=>by simp[lows]
 |x::a,b=>by simp only[wai,lows,z2l,wbb]
theorem zax{n:Nat}:∀l:List Att,lows n (zbp l)=true
 |[]=>rfl
 |a::l=>by show lows n (zbx a++zbp l)=true;rw[z2l,zax l];rfl
theorem zfj:∀l:List Att,zcd (zbp l)=true
 |[]=>rfl
 |a::l=>by
  show zcd (zbx a++zbp l)=true;simp only[zbx,wai,wa5,zcd,PV.noPtr,zfj l,wbh]
theorem zxi:∀l:List Att,noU8 (zbp l)=true
 |[]=>rfl
 |a::l=>by
  show noU8 (zbx a++zbp l)=true;rw[z1r,zxi l];rfl
theorem zz5{a b:List Att}:zbp a++zbp b=zbp (a++b):=by simp[zbp]
theorem z5i{l:List Att}{k:Nat}{x:Att}(h:l[k]?=some x):(zbp l).drop (k* 4)=zbx x++zbp (l.drop (k+1)):=by
 induction l generalizing k with
 |nil=>cases h
 |cons a l ih=>
  show(zbx a++zbp l).drop _=_;cases k with
  |zero=>
   simp only[wbl,war]at h;subst h;simp only[Nat.zero_mul,wc8,wbx,wah]
  |succ k=>
   rw[wbk]at h;have e:(k+1)* 4=4+k* 4:=by omega
   rw[e,<-wbd];show(zbp l).drop _=_;rw[ih h];rfl
theorem bx_l{bx ys:zae}{p:Nat}{q:Nat×List PV}(h:bx[p]?=some q):(bx++ys)[p]?=some q:=by
 rw[waa (qg h).1,h]
theorem bx_0{bx ys:zae}:(bx++ys)[bx.length]?=ys[0]?:=by rw[wbr (wab _),wch]
theorem yux{bx ys:zae}:(bx++ys).take bx.length=bx:=by rw[List.take_left]
theorem ynv{bx:zae}{r:List (Nat×Nat)}{p e:Nat}{a:Att}(c:Att)(hp:bx[p]?=some (e,zbx a))(hlow:zbs bx.length bx=true)(hlt:∀q∈r,q.1<bx.length):
 evW code lib 198 [.agg (zbx c),.ptr p 0] bx (cl r)=some ([.flat (.bool (decide (c.name=a.name)))],false,bx,cl r):=by
 refine zab zl2 (qa rfl) ?_;have h1:=fun ys=>bx_l (ys:=ys) hp
 simp only[zbx]at h1⊢;simp(maxSteps:=999999) (disch:=first|assumption|omega) only[go_sem,simprocAttr,au,h1,bx_0,yux,hlow,wb0]
theorem z2m{p:Att->Bool}{fin:Unit->Out×St}{g:Nat->Out×St}:∀(L:List Att)(k:Nat),(L.any p=false/\zi8 (fun(_:Unit) k x=>if p x then .inr (g k)else .inl ()) fin () k L=fin ())\/(L.any p=true/\∃j,j<k+L.length/\zi8 (fun(_:Unit) k x=>if p x then .inr (g k)else .inl ()) fin () k L=g j)
 |[],k=>.inl ⟨rfl,rfl⟩
 |x::t,k=>by
  rw[zi8,List.any_cons];cases h:p x with
  |true=>exact .inr ⟨by simp,k,by simp,by rw[if_pos rfl]⟩
  |false=>
   rw[if_neg (by simp),wcx];dsimp only;rcases z2m (fin:=fin) (g:=g) t (k+1)with h1|⟨h1,j,h2,h3⟩
   ·exact .inl h1
   ·exact .inr ⟨h1,j,by simp only[waf];omega,h3⟩
theorem yhi{bx:zae}{r:List (Nat×Nat)}{p e:Nat}{a:Att}(L:List Att)(hp:bx[p]?=some (e,zbx a))(hlow:zbs bx.length bx=true)(hlt:∀q∈r,q.1<bx.length)(hL:L.length<=1000000000):
 ∃i:Int,(L.any (fun c=>decide (c.name=a.name))=decide (0<=i))/\evW code lib 223 [.slc L.length (zbp L),.clo 198 [.ptr p 0]] bx (cl r)=some ([.flat (.int .i64 i)],false,bx,cl r):=by
 have hloop:=zl5 (body:=evC (evW code lib) big zbl) (live:=[0,1,7,8]) (nb:=bx.length) (fun(_:Unit) k=>⟨[(0,.slc L.length (zbp L)),(1,.clo 198 [.ptr p 0]),(7,.flat (.int .i64 (L.length:Nat))),(8,.flat (.int .i64 (k:Nat)))],cl r,[],bx⟩) L (fun _ _=>True)
  (fun _ k x=>if decide (x.name=a.name)then .inr (.ret,⟨[(4,.flat (.int .i64 (k:Nat)))],cl r,[],bx⟩)else .inl ()) (fun _=>(.exit 0,⟨[],cl r,[],bx⟩)) (fun _ k x _ hk hc hd=>?_) (fun _ _=>by simp only[go_sem,simprocAttr,zal,zak,zah r hlt]) (fun _ _ _ _ _ _ _ _=>trivial) (fun _ _ x r h=>by split at h<;>simp at h;rw[<-h];simp) (fun _ _=>?_) (fun _=>by simp) () trivial (by unfold big;omega)
 ·simp only[n0]at hloop
  rcases z2m (p:=fun x=>decide (x.name=a.name)) (fin:=fun _=>(.exit 0,⟨[],cl r,[],bx⟩)) (g:=fun k=>(.ret,⟨[(4,.flat (.int .i64 (k:Nat)))],cl r,[],bx⟩)) L 0 with⟨h1,h2⟩|⟨h1,j,h2,h3⟩
  ·rw[h2]at hloop
   refine⟨-1,by rw[h1];rfl,?_⟩;refine zab zcf (qa rfl) ?_;have hm:Int.negSucc 0=-1:=rfl;simp(maxSteps:=999999) (disch:=first|assumption|omega) only[go_sem,simprocAttr,au,hloop,zbe,hm]
  ·rw[h3]at hloop
   refine⟨j,by rw[h1];simp,?_⟩;refine zab zcf (qa rfl) ?_;simp(maxSteps:=999999) (disch:=first|assumption|omega) only[go_sem,simprocAttr,au,hloop,zbe]
 ·have hsd:=z5i hc
  have ho:=ynv (lib:=lib) x hp hlow hlt;simp only[zbx,wai,wa5]at hsd ho;have hmul:∀i,(zbp (L.drop (k+1))).length+1+1+1+1>=4:=fun _=>by omega
  have hyd:(198=4611686018427387904)=False:=eq_false (by decide);by_cases h:x.name=a.name
  ·have h':=eq_true h
   simp only[h',decide_true]at ho⊢;simp(maxSteps:=999999) (disch:=first|assumption|omega) only[go_sem,simprocAttr,au,zbj,hsd,ho,hyd,zbe]
  ·have h':=eq_false h
   simp only[h',decide_false]at ho⊢;simp(maxSteps:=999999) (disch:=first|assumption|omega) only[go_sem,simprocAttr,au,zbj,hsd,ho,hyd,zbe]
 ·simp(maxSteps:=999999) (disch:=first|assumption|omega) only[go_sem,simprocAttr,au,zbj]
theorem z5j{bx:zae}{r:List (Nat×Nat)}{p e:Nat}{a:Att}(L:List Att)(hp:bx[p]?=some (e,zbx a))(hlow:zbs bx.length bx=true)(hlt:∀q∈r,q.1<bx.length)(hL:L.length<=1000000000):
 evW code lib 197 [.slc L.length (zbp L),.clo 198 [.ptr p 0]] bx (cl r)=some ([.flat (.bool (L.any (fun c=>decide (c.name=a.name))))],false,bx,cl r):=by
 obtain⟨i,h1,h2⟩:=yhi (lib:=lib) L hp hlow hlt hL;refine zab zd7 (qa rfl) ?_;rw[h1];simp(maxSteps:=999999) (disch:=first|assumption|omega) only[go_sem,simprocAttr,au,h2]
def zas(t:Tok):List PV:=[.flat (.int .u8 t.kind.toNat),.flat (.string (S t.name)),.flat (.string (S t.text)),.slc t.attrs.length (zbp t.attrs),.flat (.int .i64 (t.fr:Nat)),.flat (.int .i64 (t.to:Nat))]
theorem znw{n:Nat}(t:Tok):lows n (zas t)=true:=by
 simp only[zas,lows,PV.low,zax,wc4]
theorem RdAt.app2{B:Nat->zae}{n b e:Nat}{s:Str}{r:List (Nat×Nat)}(H:RdAt B n b e s r){m:Nat}(ys:zae)(hm:n+ys.length=m)(hl:zbs m ys=true)(r':List (Nat×Nat))(hr:∀q∈r',q∈r\/(n<=q.1/\q.1<m)):RdAt (fun j=>B j++ys) m b e s r' where
 len:=(H.app ys hm hl).len
 get:=(H.app ys hm hl).get
 set:=(H.app ys hm hl).set
 lt:=(H.app ys hm hl).lt
 low:=(H.app ys hm hl).low
 hs:=H.hs
 hr q hq:=by
  rcases hr q hq with h|h
  ·exact H.hr q h
  ·intro e;have:=H.lt;rw[e]at h;dsimp only at h;omega
 hlt q hq:=by
  rcases hr q hq with h|h
  ·have:=H.hlt q h;omega
  ·exact h.2
theorem RdAt.a_low{B:Nat->zae}{n b e:Nat}{s:Str}{r:List (Nat×Nat)}(H:RdAt B n b e s r)(j i:Nat)(ys:zae):zbs (n+i) (B j++ys)=zbs (n+i) ys:=by
 rw[zw8,zkz (Nat.le_add_right n i) _ (H.low j),wbh]
theorem yai{s:Str}{k:Nat}{q:Att×Nat}(hk:k<=s.length)(h:attE s k=some q):k<q.2/\q.2<=s.length:=by
 unfold attE at h;split at h
 ·rename_i hc
  rw[wb1]at hc;have hb:=hc.2;unfold zav at hb;rw[wb1]at hb;have hpl:=zgo hb.2;rw[wbc]at hpl;simp only[waf,wdb,decide_eq_true_eq]at hpl hb;split at h
  ·cases h
  ·rename_i v e hE
   have hel:=zk6 (by omega) hE;dsimp only at hel;split at h
   ·rename_i hlt
    cases h;dsimp only;omega
   ·cases h
 ·cases h
theorem zve{s:Str}:∀a c:List Att×Nat,(a.2<=s.length/\a.1.length<=a.2)->zjh s a=.inl c->(c.2<=s.length/\c.1.length<=c.2)/\s.length - c.2<s.length - a.2:=by
 intro⟨l,k⟩ c ⟨h1,h2⟩ h;dsimp only at h1 h2;have hg:=z5h h1;unfold zjh at h;dsimp only at h;split at h
 ·cases h
 ·split at h
  ·cases h
  ·rename_i a e he
   have:=yai hg he;dsimp only at this;split at h
   ·cases h
   ·cases h
    dsimp only;simp only[wb0,waf,wdb];omega
theorem ycz{B:Nat->zae}{n b e:Nat}{s:Str}{r:List (Nat×Nat)}(H:RdAt B n b e s r)(HP:zcz lib)(HB:zgp lib)(w:Str)(fr:Nat)(l:List Att)(k:Nat)(hk:k<=s.length)(hl:l.length<=k)(Z:Tok):
 match zjh s (l,k)with
 | .inl c=>evC (evW code lib) big zcc ⟨[(0,.ptr b 0),(4,.ptr n 0),(6,.ptr (n+1) 0)],cl ((n+1,3)::(n,3)::r),[],B k++[(163,zas Z),(163,zas ⟨111,w,[],l,fr,0⟩)]⟩=some (.normal,⟨[(0,.ptr b 0),(4,.ptr n 0),(6,.ptr (n+1) 0)],cl ((n+1,3)::(n,3)::r),[],B c.2++[(163,zas Z),(163,zas ⟨111,w,[],c.1,fr,0⟩)]⟩)
 | .inr (some c)=>∃ow ys,zbm n ow=cl r/\evC (evW code lib) big zcc ⟨[(0,.ptr b 0),(4,.ptr n 0),(6,.ptr (n+1) 0)],cl ((n+1,3)::(n,3)::r),[],B k++[(163,zas Z),(163,zas ⟨111,w,[],l,fr,0⟩)]⟩=some (.ret,⟨[(4,.ptr n 0),(5,.flat (.bool true))],ow,[],B c.2++(163,zas ⟨111,w,[],c.1,fr,c.2⟩)::ys⟩)
 | .inr none=>∃t k' ow ys,k'<=s.length/\zbm n ow=cl r/\evC (evW code lib) big zcc ⟨[(0,.ptr b 0),(4,.ptr n 0),(6,.ptr (n+1) 0)],cl ((n+1,3)::(n,3)::r),[],B k++[(163,zas Z),(163,zas ⟨111,w,[],l,fr,0⟩)]⟩=some (.ret,⟨[(4,.ptr n 0),(5,.flat (.bool false))],ow,[],B k'++(163,zas t)::ys⟩):=by
 have hs:=H.hs;have hgl:=z5h hk;have hr1:=H.a_get;have hr2:=H.a_0;have hr3:=H.a_1;have hr4:=H.a_set;have hr5:=H.a_s0;have hr6:=H.a_s1;have hr7:=H.a_len;have hr8:=H.a_take;have hr9:=H.a_take1;have hrl:=H.len;have hlow:=H.low;have hd0:=H.d_0;have hd1:=H.d_1;have hu0:=H.u_0;have hu1:=H.u_1;obtain⟨r2,hr2'⟩:∃r2,r2=(n+1,3)::(n,3)::r:=⟨_,rfl⟩;obtain⟨r3,hr3'⟩:∃r3,r3=(n+1,3)::r:=⟨_,rfl⟩;have dz1:zev (n+1) 5 1 (cl r2)=cl r2:=by
  rw[hr2'];show zev (n+1) 5 1 (Loc.cell (n+1) 3::Loc.cell n 3::cl r)=Loc.cell (n+1) 3::Loc.cell n 3::cl r;rw[zg1,if_neg (by omega),zg1,if_neg (by omega),hd1]
 have dz2:zev n 0 6 (cl r2)=cl r3:=by
  rw[hr2',hr3'];show zev n 0 6 (Loc.cell (n+1) 3::Loc.cell n 3::cl r)=Loc.cell (n+1) 3::cl r;rw[zg1,if_neg (by omega),zg1,if_pos (by omega),hd0]
 obtain⟨r4,hr4'⟩:∃r4,r4=(n,3)::r:=⟨_,rfl⟩;have dz3:zer (Loc.cell (n+1) 3) (cl r2)=cl r4:=by
  rw[hr2',hr4'];show zer _ (Loc.cell (n+1) 3::Loc.cell n 3::cl r)=Loc.cell n 3::cl r;rw[zq4,if_pos ⟨rfl,rfl⟩,zq4,if_neg (by omega),zgn];intro q hq e;have:=H.hlt q hq;rw[e]at this;dsimp only at this;omega
 have dz4:zev (n+1) 3 1 (cl r4)=cl r4:=by
  rw[hr4'];show zev (n+1) 3 1 (Loc.cell n 3::cl r)=Loc.cell n 3::cl r;rw[zg1,if_neg (by omega),hd1]
 have ow1:owns (cl r2) (Loc.cell (n+1) 3)=true:=by
  rw[hr2'];show owns (Loc.cell (n+1) 3::Loc.cell n 3::cl r) _=true;rw[yew];simp
 have hc4:Loc.cell (n+1) 3::cl r4=cl r2:=by rw[hr2',hr4'];rfl
 have hu3:zbm n (cl r3)=cl r:=by
  rw[hr3'];show zbm n (Loc.cell (n+1) 3::cl r)=cl r;rw[zf9,if_neg (by omega),hu0]
 rw[<-hr2'];have K2:RdAt (fun j=>B j++[(163,zas Z),(163,zas ⟨111,w,[],l,fr,0⟩)]) (n+2) b e s r2:=H.app2 (m:=n+2) _ rfl (by simp only[zcp,zg0,znw,wc4]) r2 (by
  rw[hr2'];intro q hq;rcases waq.1 hq with rfl|hq
  ·exact .inr ⟨by dsimp only;omega,by dsimp only;omega⟩
  rcases waq.1 hq with rfl|hq
  ·exact .inr ⟨by dsimp only;omega,by dsimp only;omega⟩
  exact .inl hq)
 have hd2:=K2.d_0;have hblt:=H.lt;have hlt2:ltO (n+2) (cl r2)=cl r2:=ym9 r2 K2.hlt;have hG:=K2.gap (lib:=lib) hk;unfold zjh;dsimp only;obtain⟨g,hg⟩:∃g,gapE s k=g:=⟨_,rfl⟩;rw[hg]at hG hgl⊢;obtain⟨k1,hk1⟩:∃k1,k+g.length=k1:=⟨_,rfl⟩;rw[hk1]at hG hgl⊢;have hT:=K2.take (lib:=lib) HP [62] hgl (by decide);have hbu:zav s [62] k1=([62]:Str).isPrefixOf (s.drop k1):=by unfold zav;simp only[hgl,decide_true,wbh]
 rw[hbu];have e111:((UInt8.toNat 111:Nat):Int)=111:=rfl;simp only[zas,n0,e111]at hG hT⊢;cases hp:([62]:Str).isPrefixOf (s.drop k1)with
 |true=>
  rw[hp]at hT;simp only[if_true,waf,wdb,wbx]at hT⊢;refine⟨cl r3,[(163,zas ⟨111,w,[],l,fr,k1+1⟩)],hu3,?_⟩
  ·simp only[zas,n0,e111]
   simp(maxSteps:=999999) (disch:=first|assumption|omega) only[go_sem,simprocAttr,au,zcq,hG,hT,hr1,hr2,hr3,hr4,hr5,hr6,hr7,hr8,hr9,hrl,hlow,hd0,hd1,hu0,hu1,dz1,dz2,hd2,rd]
 |false=>
  rw[hp]at hT;simp only[wbf,if_false]at hT⊢;have hA:=yuw K2 HP HB (k:=k1) hgl;cases hE:attE s k1 with
  |none=>
   rw[hE]at hA;obtain⟨a,k',hk',hA⟩:=hA;simp only[zas,n0,e111,zbx]at hA⊢;refine⟨⟨111,w,[],l,fr,0⟩,k',cl r3,[(163,zas ⟨111,w,[],l,fr,0⟩),(214,zbx a)],hk',hu3,?_⟩;simp only[zas,n0,e111,zbx];simp(maxSteps:=999999) (disch:=first|assumption|omega) only[go_sem,simprocAttr,au,zcq,hG,hT,hA,hr1,hr2,hr3,hr4,hr5,hr6,hr7,hr8,hr9,hrl,hlow,hd0,hd1,hu0,hu1,dz1,dz2,hd2,rd]
  |some q=>
   obtain⟨a,p⟩:=q;rw[hE]at hA;have hel:=yai hgl hE;have K3:RdAt (fun j=>B j++[(163,zas Z),(163,zas ⟨111,w,[],l,fr,0⟩),(214,zbx a)]) (n+3) b e s r2:=H.app2 (m:=n+3) _ rfl (by simp only[zcp,zg0,znw,yhh,wc4]) r2 (by
    rw[hr2'];intro q hq;rcases waq.1 hq with rfl|hq
    ·exact .inr ⟨by dsimp only;omega,by dsimp only;omega⟩
    rcases waq.1 hq with rfl|hq
    ·exact .inr ⟨by dsimp only;omega,by dsimp only;omega⟩
    exact .inl hq)
   have hC:=z5j (lib:=lib) (a:=a) (p:=n+2) (e:=214) l (hr3 p 2 [(163,zas Z),(163,zas ⟨111,w,[],l,fr,0⟩),(214,zbx a)]) (by rw[K3.len];exact K3.low p) (by rw[K3.len];exact K3.hlt) (by omega);simp only[zas,n0,e111,zbx]at hA hC⊢;by_cases hg0:g.length=0
   ·have hg0':(g=[])=True:=eq_true (qz hg0)
    simp only[hg0,true_or,if_true];refine⟨⟨111,w,[],l,fr,0⟩,p,cl r3,[(163,zas ⟨111,w,[],l,fr,0⟩),(214,zbx a)],hel.2,hu3,?_⟩;simp only[zas,n0,e111,zbx];have hz:(⟨#[]⟩:ByteArray)=S []:=rfl;simp(maxSteps:=999999) (disch:=first|assumption|omega) only[go_sem,simprocAttr,au,zcq,hG,hT,hA,hg0',hz,hr1,hr2,hr3,hr4,hr5,hr6,hr7,hr8,hr9,hrl,hlow,hd0,hd1,hu0,hu1,dz1,dz2,hd2,rd]
   ·have hg0':(g=[])=False:=eq_false fun h=>hg0 (by rw[h];rfl)
    simp only[hg0,false_or];have hz:(⟨#[]⟩:ByteArray)=S []:=rfl;cases hdup:l.any (fun c=>decide (c.name=a.name))with
    |true=>
     rw[hdup]at hC;simp only[if_true];refine⟨⟨111,w,[],l,fr,0⟩,p,cl r3,[(163,zas ⟨111,w,[],l,fr,0⟩),(214,zbx a)],hel.2,hu3,?_⟩;simp only[zas,n0,e111,zbx];simp(maxSteps:=999999) (disch:=first|assumption|omega) only[go_sem,simprocAttr,au,zcq,hG,hT,hA,hC,hg0',hz,hr1,hr2,hr3,hr4,hr5,hr6,hr7,hr8,hr9,hrl,hlow,hd0,hd1,hu0,hu1,dz1,dz2,hd2,rd]
    |false=>
     rw[hdup]at hC;simp only[wbf,if_false];have hl2:=H.a_low;have hac:zbp l++[PV.flat (.string (S a.name)),.flat (.string (S a.val)),.flat (.int .i64 (a.fr:Nat)),.flat (.int .i64 (a.to:Nat))]=zbp (l++[a]):=by rw[<-zz5];rfl
     have hbd:l.length+1<=bound:=by unfold bound;omega
     simp(maxSteps:=999999) (disch:=first|assumption|omega) only[go_sem,simprocAttr,au,zcq,hG,hT,hA,hC,hg0',hz,hr1,hr2,hr3,hr4,hr5,hr6,hr7,hr8,hr9,hrl,hlow,hl2,hd0,hd1,hu0,hu1,dz1,dz2,hd2,rd,zbe,zax,zxi,hbd,dz3,dz4,ow1,hc4,hac,hlt2,wb0]
def Z0:Tok:=⟨0,[],[],[],0,0⟩
theorem yuy{B:Nat->zae}{n b e:Nat}{s:Str}{r:List (Nat×Nat)}(H:RdAt B n b e s r)(HP:zcz lib)(HB:zgp lib)(fr k:Nat)(hk:k<=s.length):
 match(if zfi.contains (zcm s k)then zuu s (k+(zcm s k).length)else none)with
 |some (l,p)=>evW code lib 163 [.ptr b 0,.flat (.int .i64 (fr:Nat))] (B k) (cl r)=some ([.agg (zas ⟨111,zcm s k,[],l,fr,p⟩),.flat (.bool true)],false,B p,cl r)/\p<=s.length
 |none=>∃t k',k'<=s.length/\evW code lib 163 [.ptr b 0,.flat (.int .i64 (fr:Nat))] (B k) (cl r)=some ([.agg (zas t),.flat (.bool false)],false,B k',cl r):=by
 have h0:=H.hs;have h1:=zkh hk;have hr1:=H.a_get;have hr2:=H.a_0;have hr3:=H.a_1;have hr4:=H.a_set;have hr5:=H.a_s0;have hr6:=H.a_s1;have hr7:=H.a_len;have hr8:=H.a_take;have hr9:=H.a_take1;have hrl:=H.len;have hlow:=H.low;have hd0:=H.d_0;have hd1:=H.d_1;have hu0:=H.u_0;have hu1:=H.u_1;have hblt:=H.lt;have hz:(⟨#[]⟩:ByteArray)=S []:=rfl;have e111:((UInt8.toNat 111:Nat):Int)=111:=rfl;have ez0:zas Z0=[.flat (.int .u8 0),.flat (.string (S [])),.flat (.string (S [])),.slc 0 [],.flat (.int .i64 0),.flat (.int .i64 0)]:=rfl;obtain⟨r2,hr2'⟩:∃r2,r2=(n+1,3)::(n,3)::r:=⟨_,rfl⟩;obtain⟨r4,hr4'⟩:∃r4,r4=(n,3)::r:=⟨_,rfl⟩;have hcl4:Loc.cell n 3::cl r=cl r4:=by rw[hr4'];rfl
 have hc4:Loc.cell (n+1) 3::cl r4=cl r2:=by rw[hr2',hr4'];rfl
 have hu4:zbm n (cl r4)=cl r:=by
  rw[hr4'];show zbm n (Loc.cell n 3::cl r)=cl r;rw[zf9,if_neg (by omega),hu0]
 have hu2:zbm n (cl r2)=cl r:=by
  rw[<-hc4,zf9,if_neg (by omega),hu4]
 have dz5:zev (n+1) 0 6 (cl r2)=cl r4:=by
  rw[<-hc4,zg1,if_pos (by omega)];exact zom r4 (by
   rw[hr4'];intro q hq;rcases waq.1 hq with rfl|hq
   ·dsimp only;omega
   ·have:=H.hlt q hq;omega)
 have dz6:zev n 0 6 (cl r2)=Loc.cell (n+1) 3::cl r:=by
  rw[<-hc4,zg1,if_neg (by omega),hr4'];show _::zev n 0 6 (Loc.cell n 3::cl r)=_;rw[zg1,if_pos (by omega),hd0]
 have hun2:zbm (n+2) (cl r2)=cl r2:=zah r2 (by
  rw[hr2'];intro q hq;rcases waq.1 hq with rfl|hq
  ·dsimp only;omega
  rcases waq.1 hq with rfl|hq
  ·dsimp only;omega
  ·have:=H.hlt q hq;omega)
 have hu5:zbm n (Loc.cell (n+1) 3::cl r)=cl r:=by rw[zf9,if_neg (by omega),hu0]
 have K1:RdAt (fun j=>B j++[(163,zas Z0)]) (n+1) b e s r4:=H.app2 (m:=n+1) _ rfl (by simp only[zcp,zg0,znw,wc4]) r4 (by
  rw[hr4'];intro q hq;rcases waq.1 hq with rfl|hq
  ·exact .inr ⟨wab _,by dsimp only;omega⟩
  exact .inl hq)
 have hw:=K1.word (lib:=lib) hk;have hel:=zz4 (lib:=lib) (zcm s k);obtain⟨w,hwd⟩:∃w,zcm s k=w:=⟨_,rfl⟩;rw[hwd]at hw hel h1⊢;obtain⟨k1,hk1⟩:∃k1,k+w.length=k1:=⟨_,rfl⟩;rw[hk1]at hw h1⊢;cases hc:zfi.contains w with
 |false=>
  rw[hc]at hel;simp only[wbf,if_false];refine⟨⟨111,w,[],[],fr,0⟩,k1,h1,?_⟩;simp only[ez0]at hw;simp only[zas,e111,n0,zbp,wd8,wdb];refine zab zex (qa rfl) ?_;simp(maxSteps:=999999) (disch:=first|assumption|omega) only[go_sem,simprocAttr,au,hz,hw,hel,hcl4,hc4,hr1,hr2,hr3,hr4,hr5,hr6,hr7,hr8,hr9,hrl,hlow,hd0,hd1,hu0,hu1,hu2,hu4,hu5,dz5,dz6,rd]
 |true=>
  rw[hc]at hel;simp only[if_true]
  have hrel:=zic (body:=evC (evW code lib) big zcc) (live:=[0,4,6]) (nb:=n+2)
   (fun(_:Unit)(q:List Att×Nat)=>(⟨[(0,.ptr b 0),(4,.ptr n 0),(6,.ptr (n+1) 0)],cl ((n+1,3)::(n,3)::r),[],B q.2++[(163,zas Z0),(163,zas ⟨111,w,[],q.1,fr,0⟩)]⟩:St))
   (zjh s) none (fun a o st=>match a with
     |some c=>c.2<=s.length/\o=.ret/\∃ow ys,zbm n ow=cl r/\st=⟨[(4,.ptr n 0),(5,.flat (.bool true))],ow,[],B c.2++(163,zas ⟨111,w,[],c.1,fr,c.2⟩)::ys⟩
     |none=>o=.ret/\∃t k' ow ys,k'<=s.length/\zbm n ow=cl r/\st=⟨[(4,.ptr n 0),(5,.flat (.bool false))],ow,[],B k'++(163,zas t)::ys⟩)
   (fun a=>a.2<=s.length/\a.1.length<=a.2) (fun a=>s.length - a.2) (fun _ ⟨l,j⟩ hi=>?_) (fun _ ⟨l,j⟩ hi=>?_) (fun a c hi h=>zve a c hi h) (n:=s.length+1) (m:=big) () ([],k1) ⟨h1,wa7 _⟩ (by dsimp only;omega) (by unfold big;dsimp only;omega)
  ·obtain⟨o,st,hl,hq⟩:=hrel
   have hopenE:runS (zjh s) none (s.length+1) ([],k1)=zuu s k1:=rfl;rw[hopenE]at hq;rw[<-hr2']at hl;simp only[ez0]at hw hl;simp only[zas,e111,n0,zbp,wd8,wdb]at hl;cases hE:zuu s k1 with
   |some c=>
    rw[hE]at hq;obtain⟨hc2,rfl,ow,ys,hu,rfl⟩:=hq;dsimp only;refine⟨?_,hc2⟩;refine zab zex (qa rfl) ?_;simp only[zas,e111]at hl⊢;simp(maxSteps:=999999) (disch:=first|assumption|omega) only[go_sem,simprocAttr,au,hz,hw,hel,hl,hu,hun2,hcl4,hc4,hr1,hr2,hr3,hr4,hr5,hr6,hr7,hr8,hr9,hrl,hlow,hd0,hd1,hu0,hu1,hu2,hu4,hu5,dz5,dz6,rd,zax]
   |none=>
    rw[hE]at hq;obtain⟨rfl,t,k',ow,ys,hk',hu,rfl⟩:=hq;dsimp only;refine⟨t,k',hk',?_⟩;refine zab zex (qa rfl) ?_;simp only[zas,e111]at hl⊢;simp(maxSteps:=999999) (disch:=first|assumption|omega) only[go_sem,simprocAttr,au,hz,hw,hel,hl,hu,hun2,hcl4,hc4,hr1,hr2,hr3,hr4,hr5,hr6,hr7,hr8,hr9,hrl,hlow,hd0,hd1,hu0,hu1,hu2,hu4,hu5,dz5,dz6,rd,zax]
  ·have:=ycz H HP HB w fr l j hi.1 hi.2 Z0
   cases hst:zjh s (l,j)with
   |inl c=>rw[hst]at this;exact⟨(),this⟩
   |inr c=>
    rw[hst]at this;cases c with
    |none=>
     obtain⟨t,k',ow,ys,h2,h3,h4⟩:=this;exact⟨_,_,h4,by simp,rfl,t,k',ow,ys,h2,h3,rfl⟩
    |some c=>
     obtain⟨ow,ys,h2,h3⟩:=this;refine⟨_,_,h3,by simp,?_,rfl,ow,ys,h2,rfl⟩;have hg:=z5h hi.1;dsimp only at hg;unfold zjh at hst;dsimp only at hst;split at hst
     ·rename_i hb
      unfold zav at hb;rw[wb1]at hb;have hpl:=zgo hb.2;rw[wbc]at hpl;simp only[waf,wdb]at hpl;cases hst;dsimp only;omega
     ·split at hst
      ·cases hst
      ·split at hst<;>cases hst
  ·rw[<-hr2']
   simp(maxSteps:=999999) (disch:=first|assumption|omega) only[go_sem,simprocAttr,au,hr7,hun2]
theorem zt5{s w:Str}{k:Nat}(hk:k<=s.length)(h:w.isPrefixOf (s.drop k)=true):k+w.length<=s.length:=by
 have:=zgo h;rw[wbc]at this;omega
theorem ynw{B:Nat->zae}{n b e:Nat}{s:Str}{r:List (Nat×Nat)}(H:RdAt B n b e s r)(HP:zcz lib)(HB:zgp lib)(k:Nat)(hk:k<=s.length):
 match zuv s k with
 |some t=>evW code lib 108 [.ptr b 0] (B k) (cl r)=some ([.agg (zas t),.flat (.bool true)],false,B t.to,cl r)/\t.to<=s.length
 |none=>∃t k',k'<=s.length/\evW code lib 108 [.ptr b 0] (B k) (cl r)=some ([.agg (zas t),.flat (.bool false)],false,B k',cl r):=by
 have h0:=H.hs;have hr1:=H.a_get;have hr2:=H.a_0;have hr3:=H.a_1;have hr4:=H.a_set;have hr5:=H.a_s0;have hr6:=H.a_s1;have hr7:=H.a_len;have hr8:=H.a_take;have hr9:=H.a_take1;have hrl:=H.len;have hlow:=H.low;have hd0:=H.d_0;have hd1:=H.d_1;have hu0:=H.u_0;have hu1:=H.u_1;have hblt:=H.lt;have hz:(⟨#[]⟩:ByteArray)=S []:=rfl;have e111:((UInt8.toNat 111:Nat):Int)=111:=rfl;have e99:((UInt8.toNat 99:Nat):Int)=99:=rfl;have e116:((UInt8.toNat 116:Nat):Int)=116:=rfl;have e60:((UInt8.toNat 60:Nat):Int)=60:=rfl;have e62:((UInt8.toNat 62:Nat):Int)=62:=rfl;have ez0:zas Z0=[.flat (.int .u8 0),.flat (.string (S [])),.flat (.string (S [])),.slc 0 [],.flat (.int .i64 0),.flat (.int .i64 0)]:=rfl;obtain⟨r4,hr4'⟩:∃r4,r4=(n,3)::r:=⟨_,rfl⟩;have hcl4:Loc.cell n 3::cl r=cl r4:=by rw[hr4'];rfl
 have hu4:zbm n (cl r4)=cl r:=by rw[<-hcl4,zf9,if_neg (by omega),hu0]
 have dz6:zev n 0 6 (cl r4)=cl r:=by rw[<-hcl4,zg1,if_pos (by omega),hd0]
 have K1:RdAt (fun j=>B j++[(163,zas Z0)]) (n+1) b e s r4:=H.app2 (m:=n+1) _ rfl (by simp only[zcp,zg0,znw,wc4]) r4 (by
  rw[hr4'];intro q hq;rcases waq.1 hq with rfl|hq
  ·exact .inr ⟨wab _,by dsimp only;omega⟩
  exact .inl hq)
 have hun1:zbm (n+1) (cl r4)=cl r4:=K1.u_0;have tk:∀(w:Str)(k:Nat),k<=s.length->w.length<=1000000000->evW code lib 159 [.ptr b 0,.flat (.string (S w))] (B k++[(163,zas Z0)]) (cl r4)=some ([.flat (.bool (zav s w k))],false,B (if zav s w k then k+w.length else k)++[(163,zas Z0)],cl r4):=fun w k h1 h2=>by
  rw[zc5 h1];exact K1.take HP w h1 h2
 have hcase:∀{w:Str}{k:Nat},k<=s.length->zav s w k=true->k+w.length<=s.length:=fun h1 h2=>zt5 h1 (by rw[<-zc5 h1];exact h2)
 have hT1:=tk [60,47] k hk (by decide);have hT2:=tk [60] k hk (by decide);unfold zuv;simp only[ez0]at hT1 hT2 tk;cases hp1:zav s [60,47] k with
 |true=>
  have h2:=hcase hk hp1;simp only[hp1,if_true,waf,wdb,wbx,Nat.reduceAdd]at hT1 h2⊢;obtain⟨k2,hk2⟩:∃k2,k+2=k2:=⟨_,rfl⟩;rw[hk2]at hT1 h2⊢;have hw:=K1.word (lib:=lib) h2;have h3:=zkh h2;have hel:=zz4 (lib:=lib) (zcm s k2);have hvo:=yuu (lib:=lib) (zcm s k2);obtain⟨w,hwd⟩:∃w,zcm s k2=w:=⟨_,rfl⟩;rw[hwd]at hw hel hvo h3⊢;obtain⟨k3,hk3⟩:∃k3,k2+w.length=k3:=⟨_,rfl⟩;rw[hk3]at hw h3⊢;have hT3:=tk [62] k3 h3 (by decide);simp only[ez0]at hw;cases hc1:zfi.contains w with
  |false=>
   rw[hc1]at hel;simp only[wdd,wbf,if_false];refine⟨⟨99,w,[],[],k,k3⟩,k3,h3,?_⟩;simp only[zas,e99,zbp,wd8,wdb];refine zab zbd (qa rfl) ?_;simp(maxSteps:=999999) (disch:=first|assumption|omega) only[go_sem,simprocAttr,au,hz,hT1,hw,hel,hcl4,hr1,hr2,hr3,hr4,hr5,hr6,hr7,hr8,hr9,hrl,hlow,hd0,hd1,hu0,hu1,hu4,dz6,hun1,rd]
  |true=>
   rw[hc1]at hel;cases hc2:zqg w with
   |true=>
    rw[hc2]at hvo;simp only[wbe,wdd,wdc,wbf,if_false];refine⟨⟨99,w,[],[],k,k3⟩,k3,h3,?_⟩;simp only[zas,e99,zbp,wd8,wdb];refine zab zbd (qa rfl) ?_;simp(maxSteps:=999999) (disch:=first|assumption|omega) only[go_sem,simprocAttr,au,hz,hT1,hw,hel,hvo,hcl4,hr1,hr2,hr3,hr4,hr5,hr6,hr7,hr8,hr9,hrl,hlow,hd0,hd1,hu0,hu1,hu4,dz6,hun1,rd]
   |false=>
    rw[hc2]at hvo;cases hp3:zav s [62] k3 with
    |false=>
     simp only[hp3,wbf,if_false]at hT3;simp only[wbj,wdc,wbf,if_false];refine⟨⟨99,w,[],[],k,k3⟩,k3,h3,?_⟩;simp only[zas,e99,zbp,wd8,wdb];refine zab zbd (qa rfl) ?_;simp(maxSteps:=999999) (disch:=first|assumption|omega) only[go_sem,simprocAttr,au,hz,hT1,hw,hel,hvo,hT3,hcl4,hr1,hr2,hr3,hr4,hr5,hr6,hr7,hr8,hr9,hrl,hlow,hd0,hd1,hu0,hu1,hu4,dz6,hun1,rd]
    |true=>
     have h4:=hcase h3 hp3;simp only[hp3,if_true,waf,wdb,wbx]at hT3 h4;simp only[wbj,wc4,if_true];refine⟨?_,h4⟩;simp only[zas,e99,zbp,wd8,wdb];refine zab zbd (qa rfl) ?_;simp(maxSteps:=999999) (disch:=first|assumption|omega) only[go_sem,simprocAttr,au,hz,hT1,hw,hel,hvo,hT3,hcl4,hr1,hr2,hr3,hr4,hr5,hr6,hr7,hr8,hr9,hrl,hlow,hd0,hd1,hu0,hu1,hu4,dz6,hun1,rd]
 |false=>
  simp only[hp1,wbf,if_false]at hT1⊢;cases hp2:zav s [60] k with
  |true=>
   have h2:=hcase hk hp2;simp only[hp2,if_true,waf,wdb,wbx,Nat.reduceAdd]at hT2 h2⊢;have hO:=yuy (lib:=lib) K1 HP HB k (k+1) h2;obtain⟨k1,hk1⟩:∃k1,k+1=k1:=⟨_,rfl⟩;rw[hk1]at hT2 h2 hO⊢;obtain⟨x,hx⟩:∃x,(if zfi.contains (zcm s k1)then zuu s (k1+(zcm s k1).length)else none)=x:=⟨_,rfl⟩;have hgoal:(if zfi.contains (zcm s k1)then(zuu s (k1+(zcm s k1).length)).map (fun q=>(⟨111,zcm s k1,[],q.1,k,q.2⟩:Tok))else none)=x.map (fun q=>(⟨111,zcm s k1,[],q.1,k,q.2⟩:Tok)):=by
    rw[<-hx];split<;>rfl
   rw[hgoal];rw[hx]at hO;cases x with
   |none=>
    obtain⟨t,k',hk',hO⟩:=hO;simp only[wda];refine⟨t,k',hk',?_⟩;simp only[ez0]at hO;simp only[zas]at hO⊢;refine zab zbd (qa rfl) ?_;simp(maxSteps:=999999) (disch:=first|assumption|omega) only[go_sem,simprocAttr,au,hz,hT1,hT2,hO,hcl4,hr1,hr2,hr3,hr4,hr5,hr6,hr7,hr8,hr9,hrl,hlow,hd0,hd1,hu0,hu1,hu4,dz6,hun1,rd,zax]
   |some q=>
    obtain⟨l,p⟩:=q;obtain⟨hO,hp⟩:=hO;simp only[wau];refine⟨?_,hp⟩;simp only[ez0]at hO;simp only[zas,e111]at hO⊢;refine zab zbd (qa rfl) ?_;simp(maxSteps:=999999) (disch:=first|assumption|omega) only[go_sem,simprocAttr,au,hz,hT1,hT2,hO,hcl4,hr1,hr2,hr3,hr4,hr5,hr6,hr7,hr8,hr9,hrl,hlow,hd0,hd1,hu0,hu1,hu4,dz6,hun1,rd,zax]
  |false=>
   simp only[hp2,wbf,if_false]at hT2⊢;have hS:=K1.says (lib:=lib) (en:=60) (bd:=62) HP HB hk;simp only[ez0,e60,e62]at hS;cases hE:zqf s 60 62 k with
   |none=>
    rw[hE]at hS;obtain⟨k',hk',hS⟩:=hS;simp only[wda];refine⟨⟨116,[],[],[],k,k'⟩,k',hk',?_⟩;simp only[zas,e116,zbp,wd8,wdb];refine zab zbd (qa rfl) ?_;simp(maxSteps:=999999) (disch:=first|assumption|omega) only[go_sem,simprocAttr,au,hz,hT1,hT2,hS,hcl4,hr1,hr2,hr3,hr4,hr5,hr6,hr7,hr8,hr9,hrl,hlow,hd0,hd1,hu0,hu1,hu4,dz6,hun1,rd,zax]
   |some q=>
    obtain⟨x,p⟩:=q;have hel:=zk6 hk hE;rw[hE]at hS;simp only[wau];refine⟨?_,hel.2.1⟩;simp only[zas,e116,zbp,wd8,wdb];refine zab zbd (qa rfl) ?_;simp(maxSteps:=999999) (disch:=first|assumption|omega) only[go_sem,simprocAttr,au,hz,hT1,hT2,hS,hcl4,hr1,hr2,hr3,hr4,hr5,hr6,hr7,hr8,hr9,hrl,hlow,hd0,hd1,hu0,hu1,hu4,dz6,hun1,rd,zax]
def zb4(l:List Tok):List PV:=l.flatMap zas
theorem zba:∀l:List Tok,(zb4 l).length=l.length* 6
 |[]=>rfl
 |a::l=>by
  show(zas a++zb4 l).length=_;rw[wb0,zba l,waf];show 6+_=_;omega
theorem zg8{n:Nat}:∀l:List Tok,lows n (zb4 l)=true
 |[]=>rfl
 |a::l=>by show lows n (zas a++zb4 l)=true;rw[z2l,zg8 l,znw];rfl
theorem zxj:∀l:List Tok,zcd (zb4 l)=true
 |[]=>rfl
 |a::l=>by
  show zcd (zas a++zb4 l)=true;simp only[zas,wai,wa5,zcd,PV.noPtr,zfj,zxj l,wbh]
theorem zz6{a b:List Tok}:zb4 a++zb4 b=zb4 (a++b):=by simp[zb4]
theorem yhj{s:Str}{k:Nat}{t:Tok}(hk:k<s.length)(h:zuv s k=some t):k<t.to:=by
 unfold zuv at h;split at h
 ·split at h
  ·cases h;dsimp only;omega
  ·cases h
 ·split at h
  ·split at h
   ·obtain⟨q,h1,rfl⟩:=qm h
    dsimp only;have hb:k+1<=s.length:=by omega
    have hw:=zkh hb;have:=zl3 (step:=zjh s) (d:=none) (I:=fun a=>(a.2<=s.length/\a.1.length<=a.2)/\k<a.2) (μ:=fun a=>s.length - a.2) (Q:=fun r=>∀q,r=some q->k<q.2) (fun a hi=>by
     cases hs:zjh s a with
     |inl c=>
      obtain⟨h2,h3⟩:=zve a c hi.1 hs;exact⟨⟨h2,by omega⟩,h3⟩
     |inr r=>
      intro q hq;subst hq;unfold zjh at hs;split at hs
      ·cases hs;dsimp only;have:=hi.2;omega
      ·split at hs
       ·cases hs
       ·split at hs<;>cases hs) (s.length+1) ([],k+1+(zcm s (k+1)).length) ⟨⟨hw,by simp⟩,by dsimp only;omega⟩ (by dsimp only;omega)
    exact this q h1
   ·cases h
  ·rename_i hb
   obtain⟨q,h1,rfl⟩:=qm h;have hel:=zk6 (by omega) h1;dsimp only;rcases Nat.lt_or_eq_of_le hel.1 with h2|h2
   ·exact h2
   ·exfalso
    have hg:s[k]?=some s[k]:=qe hk;have h60:s[k]?=some 60:=by
     rcases hel.2.2.2 with h3|h3
     ·rw[<-h2,hg]at h3;cases h3
     ·rw[h2];exact h3
    apply hb;rw[zc5 (by omega),yuv,h60];rfl
theorem z79{s:Str}(HN:∀k t,k<=s.length->zuv s k=some t->t.to<=s.length):∀a c:List Tok×Nat,(a.2<=s.length/\a.1.length<=a.2)->tokT s a=.inl c->(c.2<=s.length/\c.1.length<=c.2)/\s.length - c.2<s.length - a.2:=by
 intro⟨l,k⟩ c ⟨h1,h2⟩ h;dsimp only at h1 h2;unfold tokT at h;dsimp only at h;split at h
 ·cases h
 ·rename_i hlt
  split at h
  ·cases h
  ·rename_i t ht
   have h3:=yhj (by omega) ht;have h4:=HN k t h1 ht;cases h;dsimp only;simp only[wb0,waf,wdb];omega
theorem ynx{s:Str}{en bd:UInt8}{k:Nat}{q:Str×Nat}(hk:k<=s.length)(h:zqf s en bd k=some q):q.2<=s.length:=(zk6 hk h).2.1
theorem yny{s:Str}{k:Nat}{q:List Att×Nat}(hk:k<=s.length)(h:zuu s k=some q):q.2<=s.length:=by
 have:=zl3 (step:=zjh s) (d:=none) (I:=fun a=>a.2<=s.length/\a.1.length<=a.2\/(a.1=[]/\a.2<=s.length)) (μ:=fun a=>s.length - a.2) (Q:=fun r=>∀q,r=some q->q.2<=s.length) (fun a hi=>by
  have hi':a.2<=s.length/\a.1.length<=a.2:=by
   rcases hi with h|⟨h,h'⟩
   ·exact h
   ·exact⟨h',by rw[h];simp⟩
  cases hs:zjh s a with
  |inl c=>
   obtain⟨h2,h3⟩:=zve a c hi' hs;exact⟨.inl h2,h3⟩
  |inr r=>
   intro q hq;subst hq;have hg:=z5h hi'.1;unfold zjh at hs;split at hs
   ·rename_i hb
    have:=zt5 hg (by rw[<-zc5 hg];exact hb);simp only[waf,wdb]at this;cases hs;dsimp only;omega
   ·split at hs
    ·cases hs
    ·split at hs<;>cases hs) (s.length+1) ([],k) (.inr ⟨rfl,hk⟩) (by dsimp only;omega)
 exact this q h
theorem z2n{s:Str}{k:Nat}{t:Tok}(hk:k<=s.length)(h:zuv s k=some t):t.to<=s.length:=by
 unfold zuv at h;split at h
 ·rename_i hb
  have h2:=zt5 hk (by rw[<-zc5 hk];exact hb);simp only[waf,wdb]at h2;split at h
  ·rename_i hc
   simp only[wb1]at hc;have h3:=zkh h2;have h4:=zt5 h3 (by rw[<-zc5 h3];exact hc.2.2);simp only[waf,wdb]at h4;cases h;dsimp only;omega
  ·cases h
 ·split at h
  ·rename_i hb
   have h2:=zt5 hk (by rw[<-zc5 hk];exact hb);simp only[waf,wdb]at h2;split at h
   ·obtain⟨q,h1,rfl⟩:=qm h
    exact yny (zkh h2) h1
   ·cases h
  ·obtain⟨q,h1,rfl⟩:=qm h
   exact ynx hk h1
def Br(s:Str)(j:Nat):zae:=[(160,rd s j)]
theorem y3c{s:Str}(hs:s.length<=100000000):RdAt (Br s) 1 0 160 s [] where
 len _:=rfl
 get _:=rfl
 set _ _:=rfl
 lt:=by omega
 low _:=rfl
 hs:=hs
 hr q h:=by cases h
 hlt q h:=by cases h
theorem yhk(HP:zcz lib)(HB:zgp lib)(s:Str)(hs:s.length<=100000000):
 evW code lib 56 [.flat (.string (S s))] [] []=match z2h s with
 |some l=>some ([.slc l.length (zb4 l),.flat (.int .i64 0)],false,[],[])
 |none=>some ([.slc 0 [],.flat (.int .i64 7)],false,[],[]):=by
 have hz:(⟨#[]⟩:ByteArray)=S []:=rfl;have H:=y3c hs;have his:=yp3 (lib:=lib) s (by unfold Sm;omega)
 have hrel:=zic (body:=evC (evW code lib) big ziy) (live:=[4,5]) (nb:=1) (fun(_:Unit)(q:List Tok×Nat)=>(⟨[(4,.ptr 0 0),(5,.slc q.1.length (zb4 q.1))],[.slot 5],[],Br s q.2⟩:St))
  (tokT s) none (fun q o st=>match q with
    |some l=>o=.exit 0/\∃k',st=⟨[(5,.slc l.length (zb4 l))],[.slot 5],[],Br s k'⟩
    |none=>o=.ret/\∃y z,st=⟨[(2,.slc 0 []),(3,.flat (.int .i64 7))],[.slot 2],[],[y,z]⟩) (fun q=>q.2<=s.length/\q.1.length<=q.2) (fun q=>s.length - q.2) (fun _ ⟨l,j⟩ hj=>?_) (fun _ ⟨l,j⟩ hj=>?_) (fun a c hi h=>z79 (fun k t=>z2n) a c hi h) (n:=s.length+1) (m:=big) () ([],0) ⟨wa7 _,wab _⟩ (by dsimp only;omega) (by unfold big;dsimp only;omega)
 ·unfold z2h
  cases hu:isU s with
  |false=>
   rw[hu]at his;simp only[wbf,if_false];refine zab zhy (qa rfl) ?_;simp(maxSteps:=999999) (disch:=first|assumption|omega) only[go_sem,simprocAttr,au,hz,his]
  |true=>
   rw[hu]at his;simp only[if_true];obtain⟨o,st,hl,hq⟩:=hrel;simp only[Br,rd,zb4,wd8,wdb,n0]at hl;cases hE:runS (tokT s) none (s.length+1) ([],0)with
   |some l=>
    rw[hE]at hq;obtain⟨rfl,k',rfl⟩:=hq;refine zab zhy (qa rfl) ?_;simp only[Br,rd]at hl;simp(maxSteps:=999999) (disch:=first|assumption|omega) only[go_sem,simprocAttr,au,hz,his,hl,zg8]
   |none=>
    rw[hE]at hq;obtain⟨rfl,y,z,rfl⟩:=hq;refine zab zhy (qa rfl) ?_;simp(maxSteps:=999999) (disch:=first|assumption|omega) only[go_sem,simprocAttr,au,hz,his,hl,zg8]
 ·dsimp only at hj⊢
  have hdn:=H.done (lib:=lib) j;unfold tokT;dsimp only;by_cases hlt:s.length<=j
  ·have hlt':=eq_true hlt
   simp only[hlt,decide_true,if_true]at hdn⊢;refine⟨.exit 0,⟨[(5,.slc l.length (zb4 l))],[.slot 5],[],Br s j⟩,?_,by simp,rfl,j,rfl⟩;simp only[Br,rd,zzx]at hdn⊢;simp(maxSteps:=999999) (disch:=first|assumption|omega) only[go_sem,simprocAttr,au,zht,hdn]
  ·simp only[hlt,decide_false,if_false]at hdn⊢
   have hN:=ynw (lib:=lib) H HP HB j hj.1;cases hE:zuv s j with
   |none=>
    rw[hE]at hN;obtain⟨t,k',hk',hN⟩:=hN;refine⟨.ret,⟨[(2,.slc 0 []),(3,.flat (.int .i64 7))],[.slot 2],[],[(160,rd s k'),(163,zas t)]⟩,?_,by simp,rfl,_,_,rfl⟩;simp only[Br,rd,zzx,zas]at hdn hN⊢;simp(maxSteps:=999999) (disch:=first|assumption|omega) only[go_sem,simprocAttr,au,zht,hdn,hN]
   |some t=>
    rw[hE]at hN;obtain⟨hN,hto⟩:=hN;refine⟨(),?_⟩;simp only[Br,rd,zzx,zas]at hdn hN⊢;have hbd:l.length+1<=bound:=by unfold bound;omega
    have hac:zb4 l++[.flat (.int .u8 t.kind.toNat),.flat (.string (S t.name)),.flat (.string (S t.text)),.slc t.attrs.length (zbp t.attrs),.flat (.int .i64 (t.fr:Nat)),.flat (.int .i64 (t.to:Nat))]=zb4 (l++[t]):=by rw[<-zz6];rfl
    simp(maxSteps:=999999) (disch:=first|assumption|omega) only[go_sem,simprocAttr,au,zht,hdn,hN,hbd,hac,zba,zax,zg8,wb0]
 ·simp(maxSteps:=999999) (disch:=first|assumption|omega) only[go_sem,simprocAttr,au,Br]
theorem yhl(c:UInt8)(base:Nat)(hb:base<=16):evW code lib 229 [.flat (.int .u8 c.toNat),.flat (.int .i64 (base:Nat))] [] []=some ([.flat (.int .i64 (if digN c.toNat<base then(digN c.toNat:Int)else-1))],false,[],[]):=by
 refine zab zyt (qa rfl) ?_;have hm:Int.negSucc 0=-1:=rfl;have hc:=c.toNat_lt;obtain⟨n,hn⟩:∃n,c.toNat=n:=⟨_,rfl⟩;rw[hn]at hc⊢;rcases wd3 (48<=n/\n<=57)with h1|h1
 ·have hd:digN n=n - 48:=by unfold digN;rw[if_pos h1]
  rw[hd];by_cases hlt:n - 48<base
  ·rw[if_pos hlt]
   have e:((n - 48:Nat):Int)=(n:Int) - 48:=by omega
   rw[e];simp(maxSteps:=999999) (disch:=first|assumption|omega) only[go_sem,simprocAttr,au,hm]
  ·rw[if_neg hlt]
   simp(maxSteps:=999999) (disch:=first|assumption|omega) only[go_sem,simprocAttr,au,hm]
 rcases wd3 (65<=n/\n<=70)with h2|h2
 ·have hd:digN n=n - 55:=by unfold digN;rw[if_neg h1,if_pos h2]
  rw[hd];by_cases hlt:n - 55<base
  ·rw[if_pos hlt]
   have e:((n - 55:Nat):Int)=(n:Int) - 65+10:=by omega
   rw[e];simp(maxSteps:=999999) (disch:=first|assumption|omega) only[go_sem,simprocAttr,au,hm]
  ·rw[if_neg hlt]
   simp(maxSteps:=999999) (disch:=first|assumption|omega) only[go_sem,simprocAttr,au,hm]
 rcases wd3 (97<=n/\n<=102)with h3|h3
 ·have hd:digN n=n - 87:=by unfold digN;rw[if_neg h1,if_neg h2,if_pos h3]
  rw[hd];by_cases hlt:n - 87<base
  ·rw[if_pos hlt]
   have e:((n - 87:Nat):Int)=(n:Int) - 97+10:=by omega
   rw[e];simp(maxSteps:=999999) (disch:=first|assumption|omega) only[go_sem,simprocAttr,au,hm]
  ·rw[if_neg hlt]
   simp(maxSteps:=999999) (disch:=first|assumption|omega) only[go_sem,simprocAttr,au,hm]
 ·have hd:digN n=99:=by unfold digN;rw[if_neg h1,if_neg h2,if_neg h3]
  rw[hd,if_neg (by omega)];simp(maxSteps:=999999) (disch:=first|assumption|omega) only[go_sem,simprocAttr,au,hm]
  repeat' (split<;>simp(maxSteps:=999999) (disch:=first|assumption|omega) only[go_sem,simprocAttr,au,hm])
def nrT(s:Str)(base most:Nat)(q:Nat×Nat):(Nat×Nat) ⊕ Option (Option (Nat×Nat)):=match s[q.2]? with
 |none=>.inr none
 |some c=>if most<q.2 then .inr none else if c.toNat=59/\0<q.2 then .inr (some (some (q.1,q.2+1)))else if digN c.toNat<base then .inl (q.1* base+digN c.toNat,q.2+1)else .inr (some none)
def numR(base most:Nat)(s:Str):Option (Nat×Nat):=if 0<(zcb base most 0 s).2/\s[(zcb base most 0 s).2]?=some 59 then some ((zcb base most 0 s).1,(zcb base most 0 s).2+1)else none
theorem yhm(s:Str)(base most:Nat)(hb:base<=16):∀(f n i:Nat),s.length - i<f->i<=most+1->(runS (nrT s base most) none f (n,i)).join=if i<=most then(if 0<i+(zcb base (most - i) n (s.drop i)).2/\s[i+(zcb base (most - i) n (s.drop i)).2]?=some 59 then some ((zcb base (most - i) n (s.drop i)).1,i+(zcb base (most - i) n (s.drop i)).2+1)else none)else none
 |0,n,i,h,_=>by omega
 |f+1,n,i,h,hi=>by
  by_cases hk:i<s.length
  ·have hd:s.drop i=s[i]::s.drop (i+1):=wcm hk
   have hg:s[i]?=some s[i]:=qe hk;by_cases him:i<=most
   ·rw[if_pos him]
    have him':¬most<i:=by omega
    by_cases h59:s[i].toNat=59
    ·have hdg:¬digN s[i].toNat<base:=by rw[h59];have:digN 59=99:=rfl;omega
     have hrun:zcb base (most - i) n (s.drop i)=(n,0):=by
      rw[hd];cases most - i with
      |zero=>rfl
      |succ m=>simp only[zcb,hdg,if_false]
     have h59':s[i]=59:=wdv.1 h59;rw[hrun];simp only[wa6,hg,h59',true_and];by_cases h0:0<i
     ·rw[zca (show nrT s base most (n,i)=.inr (some (some (n,i+1))) by unfold nrT;rw[hg];dsimp only;rw[if_neg him',if_pos ⟨h59,h0⟩])]
      simp only[h0,and_self,if_true,wd9]
     ·rw[zca (show nrT s base most (n,i)=.inr (some none) by unfold nrT;rw[hg];dsimp only;rw[if_neg him',if_neg (fun h=>h0 h.2),if_neg hdg])]
      simp only[h0,false_and,if_false,wd9]
    ·by_cases hdg:digN s[i].toNat<base
     ·rw[zep (show nrT s base most (n,i)=.inl (n* base+digN s[i].toNat,i+1) by unfold nrT;rw[hg];dsimp only;rw[if_neg him',if_neg (fun h=>h59 h.1),if_pos hdg]),yhm s base most hb f _ _ (by omega) (by omega)]
      by_cases hlast:i=most
      ·subst hlast
       rw[if_neg (by omega),wch];simp only[zcb,wa6,hg,war];rw[if_neg (fun h=>h59 (by rw[h.2];rfl))]
      ·rw[if_pos (by omega),hd]
       obtain⟨m,hm⟩:∃m,most - i=m+1:=⟨most - i - 1,by omega⟩;have hm2:most - (i+1)=m:=by omega
       rw[hm,hm2];simp only[zcb,hdg,if_true];generalize zcb base m (n* base+digN s[i].toNat) (s.drop (i+1))=z;have e:i+(z.2+1)=i+1+z.2:=by omega
       rw[e]
     ·rw[zca (show nrT s base most (n,i)=.inr (some none) by unfold nrT;rw[hg];dsimp only;rw[if_neg him',if_neg (fun h=>h59 h.1),if_neg hdg])]
      have hrun:zcb base (most - i) n (s.drop i)=(n,0):=by
       rw[hd];cases most - i with
       |zero=>rfl
       |succ m=>simp only[zcb,hdg,if_false]
      rw[hrun];simp only[wa6,hg,war,wd9];rw[if_neg (fun h=>h59 (by rw[h.2];rfl))]
   ·rw[if_neg him,zca (show nrT s base most (n,i)=.inr none by unfold nrT;rw[hg];dsimp only;rw[if_pos (by omega)])]
    rfl
  ·have hg:s[i]?=none:=wb8 (by omega)
   rw[zca (show nrT s base most (n,i)=.inr none by unfold nrT;rw[hg]),wc0 (by omega)];have hrun:zcb base (most - i) n []=(n,0):=by cases most - i<;>rfl
   rw[hrun];simp only[wa6,hg,reduceCtorEq,and_false,if_false,Option.join_none,ite_self]
theorem z5k(s:Str)(base most:Nat)(hs:s.length<=1000000000)(hb:base=16\/base=10)(hm:most<=7):evW code lib 220 [.flat (.string (S s)),.flat (.int .i64 (base:Nat)),.flat (.int .i64 (most:Nat))] [] []=
 some ([.flat (.int .i64 (((numR base most s).map (·.1)).getD 0:Nat)),.flat (.int .i64 (((numR base most s).map (·.2)).getD 0:Nat))],false,[],[]):=by
 have hloop:=zl4 (body:=evC (evW code lib) big zhx) (live:=[0,1,2,8,9]) (nb:=0) (fun q:Nat×Nat=>(⟨[(0,.flat (.string (S s))),(1,.flat (.int .i64 (base:Nat))),(2,.flat (.int .i64 (most:Nat))),(8,.flat (.int .i64 (q.1:Nat))),(9,.flat (.int .i64 (q.2:Nat)))],[],[],[]⟩:St))
  (nrT s base most) none (fun q=>match q with
    |none=>(.exit 0,⟨[],[],[],[]⟩)
    |some none=>(.ret,⟨[(6,.flat (.int .i64 0)),(7,.flat (.int .i64 0))],[],[],[]⟩)
    |some (some x)=>(.ret,⟨[(6,.flat (.int .i64 (x.1:Nat))),(7,.flat (.int .i64 (x.2:Nat)))],[],[],[]⟩)) (fun q=>q.2<=s.length/\q.2<=most+1/\q.1+1<=16^q.2) (fun q=>s.length - q.2) (fun⟨n,i⟩ hi=>?_) (fun⟨n,i⟩ hi=>?_) (fun⟨n,i⟩ c hi h=>?_) (fun q=>by rcases q with _|_|_<;>simp) (n:=s.length+1) (0,0) ⟨wa7 _,by omega,by simp⟩ (by dsimp only;omega) (by unfold big;dsimp only;omega)
 ·have hrun:=yhm s base most (by omega) (s.length+1) 0 0 (by omega) (by omega)
  rw[if_pos (wa7 _)]at hrun;simp only[wbx,wc2,wc8]at hrun;have hR:(runS (nrT s base most) none (s.length+1) (0,0)).join=numR base most s:=hrun;rw[<-hR];obtain⟨x,hx⟩:∃x,runS (nrT s base most) none (s.length+1) (0,0)=x:=⟨_,rfl⟩;rw[hx]at hloop⊢;refine zab zsu (qa rfl) ?_;simp only[n0]at hloop;rcases x with _|_|x
  ·simp only[Option.join_none,wda,Option.getD_none,n0]
   simp(maxSteps:=999999) (disch:=first|assumption|omega) only[go_sem,simprocAttr,au,hloop]
  ·simp only[wd9,wda,Option.getD_none,n0]
   simp(maxSteps:=999999) (disch:=first|assumption|omega) only[go_sem,simprocAttr,au,hloop]
  ·simp only[wd9,wau,Option.getD_some,n0]
   simp(maxSteps:=999999) (disch:=first|assumption|omega) only[go_sem,simprocAttr,au,hloop]
 ·obtain⟨h1,h2,h3⟩:=hi
  dsimp only at h1 h2 h3⊢;have hpw:16^i<=4294967296:=wac (wdp (by omega) (show i<=8 by omega)) (by decide);have hbl:base<=16:=by omega
  unfold nrT;dsimp only;by_cases hk:i<s.length
  ·have hg:s[i]?=some s[i]:=qe hk
   obtain⟨c,hc⟩:∃c,s[i]=c:=⟨_,rfl⟩;rw[hc]at hg;have hdg:=yhl (lib:=lib) c base hbl;simp only[hg];by_cases him:most<i
   ·rw[if_pos him]
    simp only[outS];simp(maxSteps:=999999) (disch:=first|assumption|omega) only[go_sem,simprocAttr,au,zc4,hg]
   ·rw[if_neg him]
    by_cases h59:c.toNat=59
    ·by_cases h0:0<i
     ·rw[if_pos ⟨h59,h0⟩]
      simp only[outS];simp(maxSteps:=999999) (disch:=first|assumption|omega) only[go_sem,simprocAttr,au,zc4,hg]
     ·rw[if_neg (fun h=>h0 h.2)]
      have hd99:digN c.toNat=99:=by rw[h59];rfl
      rw[if_neg (by omega)]at hdg⊢;simp only[outS];simp(maxSteps:=999999) (disch:=first|assumption|omega) only[go_sem,simprocAttr,au,zc4,hg,hdg]
    ·rw[if_neg (fun h=>h59 h.1)]
     by_cases hdl:digN c.toNat<base
     ·rw[if_pos hdl]at hdg⊢
      simp only[outS];obtain⟨dg,hdgn⟩:∃dg,digN c.toNat=dg:=⟨_,rfl⟩;rw[hdgn]at hdg hdl⊢;have w5:IntKind.i64.wrap ((n:Int)* (base:Int))=((n* base:Nat):Int):=by rw[wrap64 (by rcases hb with rfl|rfl<;>omega)];rfl
      have w6:IntKind.i64.wrap (((n* base:Nat):Int)+(dg:Int))=((n* base:Nat):Int)+(dg:Int):=by rw[wrap64 (by rcases hb with rfl|rfl<;>omega)]
      simp(maxSteps:=999999) (disch:=first|assumption|omega) only[go_sem,simprocAttr,au,zc4,hg,hdg,w5,w6]
     ·rw[if_neg hdl]at hdg⊢
      simp only[outS];simp(maxSteps:=999999) (disch:=first|assumption|omega) only[go_sem,simprocAttr,au,zc4,hg,hdg]
  ·have hg:s[i]?=none:=wb8 (by omega)
   simp only[hg,outS];simp(maxSteps:=999999) (disch:=first|assumption|omega) only[go_sem,simprocAttr,au,zc4,hg]
 ·simp(maxSteps:=999999) (disch:=first|assumption|omega) only[go_sem,simprocAttr,au]
 ·obtain⟨h1,h2,h3⟩:=hi
  unfold nrT at h;dsimp only at h h1 h2 h3;split at h
  ·cases h
  ·rename_i c hc
   have:=(qg hc).1;split at h
   ·cases h
   split at h
   ·cases h
   split at h
   ·rename_i hdl
    cases h;refine⟨⟨by dsimp only;omega,by dsimp only;omega,?_⟩,by dsimp only;omega⟩;dsimp only;rw[wdr];obtain⟨p,hp⟩:∃p,16^i=p:=⟨_,rfl⟩;rw[hp]at h3⊢;rcases hb with rfl|rfl<;>omega
   ·cases h
theorem ynz(base:Nat):∀(m n:Nat)(s:Str),(zcb base m n s).2=0->(zcb base m n s).1=n
 |0,n,s,_=>rfl
 |m+1,n,[],_=>rfl
 |m+1,n,c::t,h=>by
  simp only[zcb]at h⊢;split at h
  ·dsimp only at h;omega
  ·rename_i hd;rw[if_neg hd]
theorem yqi(base most:Nat)(s:Str):numE base most s=match numR base most s with
 |none=>none
 |some (n,k)=>if n≠0/\isN n=true then some (za7 n,k)else none:=by
 have h0:=ynz base most 0 s;unfold numE numR;obtain⟨⟨n,k⟩,hq⟩:∃q,zcb base most 0 s=q:=⟨_,rfl⟩;rw[hq]at h0⊢;dsimp only at h0⊢;by_cases h1:0<k/\s[k]?=some 59
 ·rw[if_pos h1]
  dsimp only;by_cases h2:n≠0/\isN n=true
  ·rw[if_pos h2,if_pos ⟨h2.1,h2.2,h1.2⟩]
  ·rw[if_neg h2,if_neg (fun h=>h2 ⟨h.1,h.2.1⟩)]
 ·rw[if_neg h1]
  dsimp only;rw[if_neg];rintro⟨h2,h3,h4⟩;exact h1 ⟨Nat.pos_of_ne_zero (fun e=>h2 (h0 e)),h4⟩
theorem yaj{base most:Nat}{s:Str}{q:Nat×Nat}(h:numR base most s=some q):1<=q.2/\q.2<=most+1:=by
 have hl:=zs2 base most 0 s;unfold numR at h;split at h
 ·cases h;dsimp only;omega
 ·cases h
theorem yuz(s:Str)(k:Nat)(hs:s.length<=1000000000)(hk:k<=s.length):evW code lib 188 [.flat (.string (S s)),.flat (.int .i64 (k:Nat))] [] []=match oneE (s.drop k)with
 |some (x,c)=>some ([.flat (.string (S x)),.flat (.int .i64 (c:Nat)),.flat (.bool true)],false,[],[])
 |none=>some ([.flat (.string (S [])),.flat (.int .i64 0),.flat (.bool false)],false,[],[]):=by
 have hB:∀w:Str,w.length<=10->evW code lib 60 [.flat (.string (S s)),.flat (.string (S w)),.flat (.int .i64 (k:Nat))] [] []=some ([.flat (.bool (w.isPrefixOf (s.drop k)))],false,[],[]):=fun w hw=>by
  rw[<-zc5 hk];exact ze5 s w k hs (by omega) (by omega)
 have b1:=hB [38,97,109,112,59] (by decide);have b2:=hB [38,108,116,59] (by decide);have b3:=hB [38,103,116,59] (by decide);have b4:=hB [38,113,117,111,116,59] (by decide);have b5:=hB [38,35,120] (by decide);have b6:=hB [38,35] (by decide);have hz:(⟨#[]⟩:ByteArray)=S []:=rfl;unfold oneE;cases h1:([38,97,109,112,59]:Str).isPrefixOf (s.drop k)with
 |true=>
  rw[h1]at b1;rw[if_pos rfl];refine zab zb3 (qa rfl) ?_;simp(maxSteps:=999999) (disch:=first|assumption|omega) only[go_sem,simprocAttr,au,hz,b1,zdr,zbv,zbz,zb9,zee,zb2]
 |false=>
 rw[h1]at b1;rw[if_neg (by simp)];cases h2:([38,108,116,59]:Str).isPrefixOf (s.drop k)with
 |true=>
  rw[h2]at b2;rw[if_pos rfl];refine zab zb3 (qa rfl) ?_;simp(maxSteps:=999999) (disch:=first|assumption|omega) only[go_sem,simprocAttr,au,hz,b1,b2,zdr,zbv,zbz,zb9,zee,zb2]
 |false=>
 rw[h2]at b2;rw[if_neg (by simp)];cases h3:([38,103,116,59]:Str).isPrefixOf (s.drop k)with
 |true=>
  rw[h3]at b3;rw[if_pos rfl];refine zab zb3 (qa rfl) ?_;simp(maxSteps:=999999) (disch:=first|assumption|omega) only[go_sem,simprocAttr,au,hz,b1,b2,b3,zdr,zbv,zbz,zb9,zee,zb2]
 |false=>
 rw[h3]at b3;rw[if_neg (by simp)];cases h4:([38,113,117,111,116,59]:Str).isPrefixOf (s.drop k)with
 |true=>
  rw[h4]at b4;rw[if_pos rfl];refine zab zb3 (qa rfl) ?_;simp(maxSteps:=999999) (disch:=first|assumption|omega) only[go_sem,simprocAttr,au,hz,b1,b2,b3,b4,zdr,zbv,zbz,zb9,zee,zb2]
 |false=>
 rw[h4]at b4;rw[if_neg (by simp)]
 have hfin:∀(p m ah:Nat)(w:Str),(p=16/\m=6/\ah=3/\w=[38,35,120])\/(p=10/\m=7/\ah=2/\w=[38,35])->w.isPrefixOf (s.drop k)=true->k+ah<=s.length/\evW code lib 220 [.flat (.string (S (s.drop (k+ah)))),.flat (.int .i64 (p:Nat)),.flat (.int .i64 (m:Nat))] [] []=
  some ([.flat (.int .i64 (((numR p m (s.drop (k+ah))).map (·.1)).getD 0:Nat)),.flat (.int .i64 (((numR p m (s.drop (k+ah))).map (·.2)).getD 0:Nat))],false,[],[]):=fun p m ah w hw hp=>by
   have:=zt5 hk hp;refine⟨by rcases hw with⟨_,_,rfl,rfl⟩|⟨_,_,rfl,rfl⟩<;>simpa using this,z5k _ _ _ (by rw[wbc];omega) (by rcases hw with⟨rfl,_⟩|⟨rfl,_⟩<;>simp) (by rcases hw with⟨_,rfl,_⟩|⟨_,rfl,_⟩<;>omega)⟩
 cases h5:([38,35,120]:Str).isPrefixOf (s.drop k)with
 |true=>
  rw[h5]at b5;rw[if_pos rfl];obtain⟨hle,hN⟩:=hfin 16 6 3 _ (.inl ⟨rfl,rfl,rfl,rfl⟩) h5;have e16:((16:Nat):Int)=16:=rfl;have e6:((6:Nat):Int)=6:=rfl;rw[e16,e6]at hN;rw[wbd,yqi];cases hR:numR 16 6 (s.drop (k+3))with
  |none=>
   rw[hR]at hN;simp only[wda,Option.getD_none,n0]at hN⊢;refine zab zb3 (qa rfl) ?_;simp(maxSteps:=999999) (disch:=first|assumption|omega) only[go_sem,simprocAttr,au,hz,b1,b2,b3,b4,b5,hN,zdr,zbv,zbz,zb9,zee,zb2]
  |some q=>
   obtain⟨n,c⟩:=q;rw[hR]at hN;have hc:=yaj hR;dsimp only at hc;have hru:=zvb (lib:=lib) n;have hby:=zk2 (lib:=lib) n;simp only[wau,Option.getD_some]at hN⊢;by_cases hn:n=0
   ·subst hn
    simp only[ne_eq,not_true_eq_false,false_and,if_false,wda,n0]at hN⊢;refine zab zb3 (qa rfl) ?_;simp(maxSteps:=999999) (disch:=first|assumption|omega) only[go_sem,simprocAttr,au,hz,b1,b2,b3,b4,b5,hN,zdr,zbv,zbz,zb9,zee,zb2]
   ·cases hi:isN n with
    |false=>
     rw[hi]at hru;simp only[wbf,and_false,if_false,wda];refine zab zb3 (qa rfl) ?_;simp(maxSteps:=999999) (disch:=first|assumption|omega) only[go_sem,simprocAttr,au,hz,b1,b2,b3,b4,b5,hN,hru,zdr,zbv,zbz,zb9,zee,zb2]
    |true=>
     rw[hi]at hru;simp only[ne_eq,hn,not_false_eq_true,and_self,if_true,wau];refine zab zb3 (qa rfl) ?_;have e3:((3:Nat):Int)=3:=rfl;simp(maxSteps:=999999) (disch:=first|assumption|omega) only[go_sem,simprocAttr,au,hz,b1,b2,b3,b4,b5,hN,hru,hby,e3,zdr,zbv,zbz,zb9,zee,zb2]
 |false=>
 rw[h5]at b5;rw[if_neg (by simp)];cases h6:([38,35]:Str).isPrefixOf (s.drop k)with
 |true=>
  rw[h6]at b6;rw[if_pos rfl];obtain⟨hle,hN⟩:=hfin 10 7 2 _ (.inr ⟨rfl,rfl,rfl,rfl⟩) h6;have e16:((10:Nat):Int)=10:=rfl;have e6:((7:Nat):Int)=7:=rfl;rw[e16,e6]at hN;rw[wbd,yqi];cases hR:numR 10 7 (s.drop (k+2))with
  |none=>
   rw[hR]at hN;simp only[wda,Option.getD_none,n0]at hN⊢;refine zab zb3 (qa rfl) ?_;simp(maxSteps:=999999) (disch:=first|assumption|omega) only[go_sem,simprocAttr,au,hz,b1,b2,b3,b4,b5,b6,hN,zdr,zbv,zbz,zb9,zee,zb2]
  |some q=>
   obtain⟨n,c⟩:=q;rw[hR]at hN;have hc:=yaj hR;dsimp only at hc;have hru:=zvb (lib:=lib) n;have hby:=zk2 (lib:=lib) n;simp only[wau,Option.getD_some]at hN⊢;by_cases hn:n=0
   ·subst hn
    simp only[ne_eq,not_true_eq_false,false_and,if_false,wda,n0]at hN⊢;refine zab zb3 (qa rfl) ?_;simp(maxSteps:=999999) (disch:=first|assumption|omega) only[go_sem,simprocAttr,au,hz,b1,b2,b3,b4,b5,b6,hN,zdr,zbv,zbz,zb9,zee,zb2]
   ·cases hi:isN n with
    |false=>
     rw[hi]at hru;simp only[wbf,and_false,if_false,wda];refine zab zb3 (qa rfl) ?_;simp(maxSteps:=999999) (disch:=first|assumption|omega) only[go_sem,simprocAttr,au,hz,b1,b2,b3,b4,b5,b6,hN,hru,zdr,zbv,zbz,zb9,zee,zb2]
    |true=>
     rw[hi]at hru;simp only[ne_eq,hn,not_false_eq_true,and_self,if_true,wau];refine zab zb3 (qa rfl) ?_;have e3:((2:Nat):Int)=2:=rfl;simp(maxSteps:=999999) (disch:=first|assumption|omega) only[go_sem,simprocAttr,au,hz,b1,b2,b3,b4,b5,b6,hN,hru,hby,e3,zdr,zbv,zbz,zb9,zee,zb2]
 |false=>
 rw[h6]at b6;rw[if_neg (by simp)];refine zab zb3 (qa rfl) ?_;simp(maxSteps:=999999) (disch:=first|assumption|omega) only[go_sem,simprocAttr,au,hz,b1,b2,b3,b4,b5,b6,zdr,zbv,zbz,zb9,zee,zb2]
theorem yhn(L:List Str)(s:Str)(hL:L.length<=1000000):evW code lib 144 [.slc L.length (zaq L),.flat (.string (S s))] [] []=some ([.flat (.bool (L.contains s))],false,[],[]):=by
 have hloop:=zl5 (body:=evC (evW code lib) big zsp) (live:=[0,1,5]) (nb:=0) (fun(_:Unit) k=>⟨[(0,.slc L.length (zaq L)),(1,.flat (.string (S s))),(5,.flat (.int .i64 (k:Nat)))],[],[],[]⟩) L (fun _ _=>True)
  (fun _ k x=>if x=s then .inr (.ret,⟨[(4,.flat (.bool true))],[],[],[]⟩)else .inl ()) (fun _=>(.exit 0,⟨[],[],[],[]⟩)) (fun _ k x _ hk hc hd=>?_) (fun _ _=>by simp only[go_sem,simprocAttr]) (fun _ _ _ _ _ _ _ _=>trivial) (fun _ _ x r h=>by split at h<;>simp at h;rw[<-h];simp) (fun _ _=>?_) (fun _=>by simp) () trivial (by unfold big;omega)
 ·simp only[n0]at hloop
  rcases z2k (s:=s) (fin:=fun _=>(.exit 0,⟨[],[],[],[]⟩)) (g:=fun _=>(.ret,⟨[(4,.flat (.bool true))],[],[],[]⟩)) L 0 with⟨h1,h2⟩|⟨h1,j,h2,h3⟩
  ·rw[h2]at hloop
   rw[h1];refine zab zw5 (qa rfl) ?_;simp(maxSteps:=999999) (disch:=first|assumption|omega) only[go_sem,simprocAttr,au,hloop,zam]
  ·rw[h3]at hloop
   rw[h1];refine zab zw5 (qa rfl) ?_;simp(maxSteps:=999999) (disch:=first|assumption|omega) only[go_sem,simprocAttr,au,hloop,zam]
 ·have hsc:(zaq L)[k]?=some (.flat (.string (S x))):=by simp only[zaq,wbu,hc,wau]
  have hsd:(zaq L).drop k=.flat (.string (S x))::(zaq L).drop (k+1):=by
   rw[wcm (by rw[zam];exact hk)];rw[qe (by rw[zam];exact hk),war]at hsc;rw[hsc]
  by_cases h:x=s
  ·have h':(x=s)=True:=eq_true h
   rw[if_pos h];simp(maxSteps:=999999) (disch:=first|assumption|omega) only[go_sem,simprocAttr,au,zp6,hsc,hsd,h',zam]
  ·have h':(x=s)=False:=eq_false h
   rw[if_neg h];simp(maxSteps:=999999) (disch:=first|assumption|omega) only[go_sem,simprocAttr,au,zp6,hsc,hsd,h',zam]
 ·simp(maxSteps:=999999) (disch:=first|assumption|omega) only[go_sem,simprocAttr,au,zp6,zam]
theorem z5l:evW code lib 145 [] [] []=some ([.slc zfi.length (zaq zfi)],true,[],[]):=by
 refine zab zyr (qa rfl) ?_;simp only[zaq,zfi,wax,wc7];simp only[go_sem,simprocAttr,mk_S]
theorem yho:evW code lib 190 [] [] []=some ([.slc znv.length (zaq znv)],true,[],[]):=by
 refine zab zys (qa rfl) ?_;simp only[zaq,znv,wax,wc7];simp only[go_sem,simprocAttr,mk_S]
theorem yak(s:Str):evW code lib 92 [.flat (.string (S s))] [] []=some ([.flat (.bool (zqg s))],false,[],[]):=by
 refine zab z17 (qa rfl) ?_;unfold zqg;rcases wd3 (s=[98,114])with h1|h1<;>rcases wd3 (s=[104,114])with h2|h2<;>rcases wd3 (s=[105,109,103])with h3|h3
 all_goals
  first|have h1':=eq_false h1|have h1':=eq_true h1
  first|have h2':=eq_false h2|have h2':=eq_true h2
  first|have h3':=eq_false h3|have h3':=eq_true h3
  clear h1 h2 h3;simp(maxSteps:=999999) (disch:=first|assumption|omega) only[go_sem,simprocAttr,au,h1',h2',h3']
theorem z2o(s:Str)(k:Nat)(hs:s.length<=1000000000)(hk:k<=s.length):evW code lib 143 [.flat (.string (S s)),.flat (.int .i64 (k:Nat))] [] []=some ([.flat (.string (S (zcm s k)))],false,[],[]):=by
 have hloop:=zl4 (body:=evC (evW code lib) big znj) (live:=[0,1,5]) (nb:=0) (fun j:Nat=>(⟨[(0,.flat (.string (S s))),(1,.flat (.int .i64 (j:Nat))),(5,.flat (.int .i64 (k:Nat)))],[],[],[]⟩:St))
  (whT s letB) 0 (fun j=>(.exit 0,⟨[(0,.flat (.string (S s))),(1,.flat (.int .i64 (j:Nat))),(5,.flat (.int .i64 (k:Nat)))],[],[],[]⟩)) (fun j=>j<=s.length) (fun j=>s.length - j) (fun j hj=>?_) (fun j hj=>?_) (fun j i hj h=>?_) (fun j=>by simp) (n:=s.length+1) k hk (by(try dsimp only);omega) (by unfold big;(try dsimp only);omega)
 ·rw[zid s letB _ k (by omega) hk]at hloop
  have hn:=zkh hk;unfold zcm at hn⊢;obtain⟨n,hnn⟩:∃n,k+((s.drop k).takeWhile letB).length=n:=⟨_,rfl⟩;have htk:(s.take n).drop k=(s.drop k).takeWhile letB:=by
   rw[<-hnn,wdg,wbs];exact(List.prefix_iff_eq_take.1 (wd7 letB)).symm
  rw[hnn]at hloop hn;have hkn:k<=n:=by omega
  refine zab z16 (qa rfl) ?_;simp(maxSteps:=999999) (disch:=first|assumption|omega) only[go_sem,simprocAttr,au,hloop,htk]
 ·by_cases hlt:j<s.length
  ·have hg:s[j]?=some s[j]:=qe hlt
   obtain⟨c,hc⟩:∃c,s[j]=c:=⟨_,rfl⟩;rw[hc]at hg;simp only[whT,hg];unfold letB;obtain⟨n,hn⟩:∃n,c.toNat=n:=⟨_,rfl⟩;rw[hn];rcases wd3 (97<=n)with a1|a1<;>rcases wd3 (n<=122)with a2|a2<;>rcases wd3 (48<=n)with a3|a3<;>rcases wd3 (n<=57)with a4|a4
   all_goals first|(exfalso;omega)|skip
   all_goals
    simp(maxSteps:=999999) (disch:=first|assumption|omega) only[go_sem,simprocAttr,au,zrm,hg,hn,outS]
  ·have hg:s[j]?=none:=wb8 (by omega)
   simp only[whT,hg,outS];simp(maxSteps:=999999) (disch:=first|assumption|omega) only[go_sem,simprocAttr,au,zrm,hg]
 ·simp(maxSteps:=999999) (disch:=first|assumption|omega) only[go_sem,simprocAttr,au]
 ·unfold whT at h
  split at h
  ·rename_i c hc
   have:=(qg hc).1;split at h
   ·cases h;(try dsimp only);omega
   ·cases h
  ·cases h
theorem yc0(s:Str)(k:Nat)(hs:s.length<=1000000000)(hk:k<=s.length):evW code lib 189 [.flat (.string (S s)),.flat (.int .i64 (k:Nat))] [] []=some ([.flat (.int .i64 ((k+(gapE s k).length:Nat)))],false,[],[]):=by
 have hloop:=zl4 (body:=evC (evW code lib) big zkb) (live:=[0,1]) (nb:=0) (fun j:Nat=>(⟨[(0,.flat (.string (S s))),(1,.flat (.int .i64 (j:Nat)))],[],[],[]⟩:St))
  (whT s zrx) 0 (fun j=>(.exit 0,⟨[(1,.flat (.int .i64 (j:Nat)))],[],[],[]⟩)) (fun j=>j<=s.length) (fun j=>s.length - j) (fun j hj=>?_) (fun j hj=>?_) (fun j i hj h=>?_) (fun j=>by simp) (n:=s.length+1) k hk (by(try dsimp only);omega) (by unfold big;(try dsimp only);omega)
 ·rw[zid s zrx _ k (by omega) hk]at hloop
  unfold gapE;obtain⟨n,hnn⟩:∃n,k+((s.drop k).takeWhile zrx).length=n:=⟨_,rfl⟩;rw[hnn]at hloop⊢;refine zab zw4 (qa rfl) ?_;simp(maxSteps:=999999) (disch:=first|assumption|omega) only[go_sem,simprocAttr,au,hloop]
 ·by_cases hlt:j<s.length
  ·have hg:s[j]?=some s[j]:=qe hlt
   obtain⟨c,hc⟩:∃c,s[j]=c:=⟨_,rfl⟩;rw[hc]at hg;simp only[whT,hg];unfold zrx;obtain⟨n,hn⟩:∃n,c.toNat=n:=⟨_,rfl⟩;rw[hn];rcases wd3 (n=32)with a1|a1<;>rcases wd3 (n=9)with a2|a2<;>rcases wd3 (n=10)with a3|a3
   all_goals first|(exfalso;omega)|skip
   all_goals
    first|have b1:=eq_false a1|have b1:=eq_true a1
    first|have b2:=eq_false a2|have b2:=eq_true a2
    first|have b3:=eq_false a3|have b3:=eq_true a3
    simp(maxSteps:=999999) (disch:=first|assumption|omega) only[go_sem,simprocAttr,au,znk,hg,hn,b1,b2,b3,outS]
  ·have hg:s[j]?=none:=wb8 (by omega)
   simp only[whT,hg,outS];simp(maxSteps:=999999) (disch:=first|assumption|omega) only[go_sem,simprocAttr,au,znk,hg]
 ·simp(maxSteps:=999999) (disch:=first|assumption|omega) only[go_sem,simprocAttr,au]
 ·unfold whT at h
  split at h
  ·rename_i c hc
   have:=(qg hc).1;split at h
   ·cases h;(try dsimp only);omega
   ·cases h
  ·cases h
theorem yal(s:Str)(en bd:UInt8)(k:Nat)(hs:s.length<=100000000)(hk:k<=s.length):evW code lib 141 [.flat (.string (S s)),.flat (.int .i64 (k:Nat)),.flat (.int .u8 en.toNat),.flat (.int .u8 bd.toNat)] [] []=match zqf s en bd k with
 |some (x,p)=>some ([.flat (.string (S x)),.flat (.int .i64 (p:Nat)),.flat (.bool true)],false,[],[])
 |none=>some ([.flat (.string (S [])),.flat (.int .i64 0),.flat (.bool false)],false,[],[]):=by
 have hz:(⟨#[]⟩:ByteArray)=S []:=rfl
 have hloop:=zl4 (body:=evC (evW code lib) big znh) (live:=[0,1,2,3,11]) (nb:=0) (fun q:Str×Nat=>(⟨[(0,.flat (.string (S s))),(1,.flat (.int .i64 (q.2:Nat))),(2,.flat (.int .u8 en.toNat)),(3,.flat (.int .u8 bd.toNat)),(11,.flat (.string (S q.1)))],[],[],[]⟩:St))
  (zrw s en bd) none (fun q=>match q with
    |some x=>(.exit 0,⟨[(1,.flat (.int .i64 (x.2:Nat))),(11,.flat (.string (S x.1)))],[],[],[]⟩)
    |none=>(.ret,⟨[(8,.flat (.string (S []))),(9,.flat (.int .i64 0)),(10,.flat (.bool false))],[],[],[]⟩)) (fun a=>a.2<=s.length/\k<=a.2/\a.1.length<=4* (a.2 - k)) (fun a=>s.length - a.2) (fun⟨out,j⟩ hi=>?_) (fun⟨out,j⟩ hi=>?_) (fun a c hi h=>z2g k a c hi h) (fun q=>by cases q<;>simp) (n:=s.length+1) ([],k) ⟨hk,wab _,by simp⟩ (by dsimp only;omega) (by unfold big;dsimp only;omega)
 ·have hsaysE:runS (zrw s en bd) none (s.length+1) ([],k)=zqf s en bd k:=rfl
  rw[hsaysE]at hloop;cases hE:zqf s en bd k with
  |none=>
   rw[hE]at hloop;dsimp only at hloop⊢;refine zab zrq (qa rfl) ?_;simp(maxSteps:=999999) (disch:=first|assumption|omega) only[go_sem,simprocAttr,au,hz,hloop]
  |some q=>
   rw[hE]at hloop;dsimp only at hloop⊢;refine zab zrq (qa rfl) ?_;simp(maxSteps:=999999) (disch:=first|assumption|omega) only[go_sem,simprocAttr,au,hz,hloop]
 ·dsimp only at hi⊢
  by_cases hlt1:j<s.length
  ·have hg:s[j]?=some s[j]:=qe hlt1
   obtain⟨c,hc⟩:∃c,s[j]=c:=⟨_,rfl⟩;rw[hc]at hg;unfold zrw;simp only[hg];by_cases h1:c=en
   ·have h1':(c.toNat=en.toNat)=True:=eq_true (congrArg UInt8.toNat h1)
    rw[if_pos h1];simp only[outS];simp(maxSteps:=999999) (disch:=first|assumption|omega) only[go_sem,simprocAttr,au,ze3,hg,h1']
   ·have h1':(c.toNat=en.toNat)=False:=eq_false fun h=>h1 (wdv.1 h)
    rw[if_neg h1];by_cases h2:c=bd
    ·have h2':(c.toNat=bd.toNat)=True:=eq_true (congrArg UInt8.toNat h2)
     rw[if_pos h2];simp only[outS];simp(maxSteps:=999999) (disch:=first|assumption|omega) only[go_sem,simprocAttr,au,hz,ze3,hg,h1',h2']
    ·have h2':(c.toNat=bd.toNat)=False:=eq_false fun h=>h2 (wdv.1 h)
     rw[if_neg h2];by_cases h3:c=38
     ·have h3':(c.toNat=38)=True:=eq_true (by rw[h3];rfl)
      rw[if_pos h3];have hO:=yuz (lib:=lib) s j (by omega) hi.1;cases hE:oneE (s.drop j)with
      |none=>
       rw[hE]at hO;simp only[outS]at hO⊢;simp(maxSteps:=999999) (disch:=first|assumption|omega) only[go_sem,simprocAttr,au,hz,ze3,hg,h1',h2',h3',hO]
      |some q=>
       obtain⟨x,n⟩:=q;rw[hE]at hO;have hx:=z2f hE;rw[wbc]at hx;dsimp only at hx;have hbd:out.length+x.length<=bound:=by unfold bound;omega
       simp only[outS]at hO⊢;simp(maxSteps:=999999) (disch:=first|assumption|omega) only[go_sem,simprocAttr,au,hz,ze3,hg,h1',h2',h3',hO,hbd]
     ·have h3':(c.toNat=38)=False:=eq_false fun h=>h3 (wdv.1 h)
      rw[if_neg h3];have hd:s.drop j=s[j]::s.drop (j+1):=wcm hlt1;have hsl:(s.take (j+1)).drop j=[c]:=by
       rw[wdg,hd,hc,wbs];rfl
      have hbd:out.length+1<=bound:=by unfold bound;omega
      simp only[outS];simp(maxSteps:=999999) (disch:=first|assumption|omega) only[go_sem,simprocAttr,au,hz,ze3,hg,h1',h2',h3',hsl,hbd]
  ·have hg:s[j]?=none:=wb8 (by omega)
   unfold zrw;simp only[hg,outS];simp(maxSteps:=999999) (disch:=first|assumption|omega) only[go_sem,simprocAttr,au,ze3,hg]
 ·simp(maxSteps:=999999) (disch:=first|assumption|omega) only[go_sem,simprocAttr,au]
def bR(l:List Att)(w:Str)(k to:Nat):List PV:=zas ⟨111,w,[],l,k,to⟩
theorem yu0(s w:Str)(k k1:Nat)(a:Att)(l:List Att)(hl:l.length<=1000000000)(X:List PV):
 zcn (evC (evW code lib) big zgl) [0,4,6,7,8,9] 3 big ⟨[(0,.flat (.string (S s))),(4,.ptr 0 0),(6,.ptr 1 0),(7,.flat (.int .i64 (k1:Nat))),(8,.ptr 2 0),(9,.flat (.int .i64 0))],[.cell 1 3,.cell 0 3],[],[(137,zas Z0),(137,bR l w k 0),(210,zbx a)]⟩=
 some (if l.any (fun c=>decide (c.name=a.name))then(.ret,⟨[(4,.ptr 0 0),(5,.flat (.bool false))],[.cell 1 3],[],[(137,bR l w k 0),(137,bR l w k 0),(210,zbx a)]⟩)
  else(.exit 2,⟨[(0,.flat (.string (S s))),(4,.ptr 0 0),(6,.ptr 1 0),(7,.flat (.int .i64 (k1:Nat))),(8,.ptr 2 0)],[.cell 1 3,.cell 0 3],[],[(137,zas Z0),(137,bR l w k 0),(210,zbx a)]⟩)):=by
 have hloop:=zl5 (body:=evC (evW code lib) big zgl) (live:=[0,4,6,7,8,9]) (nb:=3) (fun(_:Unit) i=>⟨[(0,.flat (.string (S s))),(4,.ptr 0 0),(6,.ptr 1 0),(7,.flat (.int .i64 (k1:Nat))),(8,.ptr 2 0),(9,.flat (.int .i64 (i:Nat)))],[.cell 1 3,.cell 0 3],[],[(137,zas Z0),(137,bR l w k 0),(210,zbx a)]⟩) l (fun _ _=>True)
  (fun _ i x=>if decide (x.name=a.name)then .inr (.ret,⟨[(4,.ptr 0 0),(5,.flat (.bool false))],[.cell 1 3],[],[(137,bR l w k 0),(137,bR l w k 0),(210,zbx a)]⟩)else .inl ()) (fun _=>(.exit 2,⟨[(0,.flat (.string (S s))),(4,.ptr 0 0),(6,.ptr 1 0),(7,.flat (.int .i64 (k1:Nat))),(8,.ptr 2 0)],[.cell 1 3,.cell 0 3],[],[(137,zas Z0),(137,bR l w k 0),(210,zbx a)]⟩)) (fun _ i x _ hk hc hd=>?_) (fun _ _=>by simp only[go_sem,simprocAttr]) (fun _ _ _ _ _ _ _ _=>trivial) (fun _ _ x r h=>by split at h<;>simp at h;rw[<-h];simp) (fun _ _=>?_) (fun _=>by simp) () trivial (by unfold big;omega)
 ·simp only[n0]at hloop
  rw[hloop];rcases z2m (p:=fun x=>decide (x.name=a.name)) (fin:=fun _=>(.exit 2,⟨[(0,.flat (.string (S s))),(4,.ptr 0 0),(6,.ptr 1 0),(7,.flat (.int .i64 (k1:Nat))),(8,.ptr 2 0)],[.cell 1 3,.cell 0 3],[],[(137,zas Z0),(137,bR l w k 0),(210,zbx a)]⟩)) (g:=fun _=>(.ret,⟨[(4,.ptr 0 0),(5,.flat (.bool false))],[.cell 1 3],[],[(137,bR l w k 0),(137,bR l w k 0),(210,zbx a)]⟩)) l 0 with⟨h1,h2⟩|⟨h1,j,h2,h3⟩
  ·rw[h2,h1];rfl
  ·rw[h3,h1];rfl
 ·have hsd:=z5i hc
  simp only[zbx,wai,wa5]at hsd⊢;simp only[bR,zas];have ez0:zas Z0=[.flat (.int .u8 0),.flat (.string (S [])),.flat (.string (S [])),.slc 0 [],.flat (.int .i64 0),.flat (.int .i64 0)]:=rfl;by_cases h:x.name=a.name
  ·have h':(x.name=a.name)=True:=eq_true h
   simp only[h',decide_true,if_true];simp(maxSteps:=999999) (disch:=first|assumption|omega) only[go_sem,simprocAttr,au,zhv,hsd,h',zbe,zax,ez0]
  ·have h':(x.name=a.name)=False:=eq_false h
   simp only[h',decide_false,wbf,if_false];simp(maxSteps:=999999) (disch:=first|assumption|omega) only[go_sem,simprocAttr,au,zhv,hsd,h',zbe,zax,ez0]
 ·simp only[bR,zas,zbx]
  simp(maxSteps:=999999) (disch:=first|assumption|omega) only[go_sem,simprocAttr,au,zhv]
theorem yu1{s:Str}{l:List Att}{k:Nat}(h0:(gapE s k).length=0)(hp:zav s [62] (k+(gapE s k).length)=false):zjh s (l,k)=.inr none:=by
 unfold zjh;dsimp only;rw[if_neg (by rw[hp];simp)];cases attE s (k+(gapE s k).length)with
 |none=>rfl
 |some q=>dsimp only;rw[if_pos (.inl h0)]
theorem zyv(s w:Str)(hs:s.length<=100000000)(fr:Nat)(l:List Att)(k:Nat)(hk:k<=s.length)(hl:l.length<=k):
 match zjh s (l,k)with
 | .inl c=>evC (evW code lib) big zdz ⟨[(0,.flat (.string (S s))),(1,.flat (.int .i64 (k:Nat))),(4,.ptr 0 0),(6,.ptr 1 0)],[.cell 1 3,.cell 0 3],[],[(137,zas Z0),(137,bR l w fr 0)]⟩=some (.normal,⟨[(0,.flat (.string (S s))),(1,.flat (.int .i64 (c.2:Nat))),(4,.ptr 0 0),(6,.ptr 1 0)],[.cell 1 3,.cell 0 3],[],[(137,zas Z0),(137,bR c.1 w fr 0)]⟩)
 | .inr (some c)=>evC (evW code lib) big zdz ⟨[(0,.flat (.string (S s))),(1,.flat (.int .i64 (k:Nat))),(4,.ptr 0 0),(6,.ptr 1 0)],[.cell 1 3,.cell 0 3],[],[(137,zas Z0),(137,bR l w fr 0)]⟩=some (.ret,⟨[(4,.ptr 0 0),(5,.flat (.bool true))],[.cell 1 3],[],[(137,bR c.1 w fr c.2),(137,bR c.1 w fr c.2)]⟩)
 | .inr none=>∃t ys,evC (evW code lib) big zdz ⟨[(0,.flat (.string (S s))),(1,.flat (.int .i64 (k:Nat))),(4,.ptr 0 0),(6,.ptr 1 0)],[.cell 1 3,.cell 0 3],[],[(137,zas Z0),(137,bR l w fr 0)]⟩=some (.ret,⟨[(4,.ptr 0 0),(5,.flat (.bool false))],[.cell 1 3],[],(137,zas t)::ys⟩):=by
 have hz:(⟨#[]⟩:ByteArray)=S []:=rfl;have ez0:zas Z0=[.flat (.int .u8 0),.flat (.string (S [])),.flat (.string (S [])),.slc 0 [],.flat (.int .i64 0),.flat (.int .i64 0)]:=rfl;have e111:((UInt8.toNat 111:Nat):Int)=111:=rfl;have e34:((UInt8.toNat 34:Nat):Int)=34:=rfl;have e60:((UInt8.toNat 60:Nat):Int)=60:=rfl;have hgl:=z5h hk;have hG:=yc0 (lib:=lib) s k (by omega) hk;have hT0:=@yu1 s l k
 have hoT:zjh s (l,k)=(if zav s [62] (k+(gapE s k).length)then .inr (some (l,k+(gapE s k).length+1))
  else match attE s (k+(gapE s k).length)with
  |none=>.inr none
  |some (a,e)=>if(gapE s k).length=0\/(l.any fun b=>decide (b.name=a.name))=true then .inr none else .inl (l++[a],e)):=rfl
 obtain⟨g,hg⟩:∃g,gapE s k=g:=⟨_,rfl⟩;rw[hg]at hG hgl hT0 hoT;obtain⟨k1,hk1⟩:∃k1,k+g.length=k1:=⟨_,rfl⟩;rw[hk1]at hG hgl hT0 hoT;have hT:=ze5 (lib:=lib) s [62] k1 (by omega) (by decide) (by omega);have hwl:=zkh hgl;have hW:=z2o (lib:=lib) s k1 (by omega) hgl;have hI:=yhn (lib:=lib) znv (zcm s k1) (by decide);have hat:=yho (lib:=lib);have hEq:=ze5 (lib:=lib) s [61,34] (k1+(zcm s k1).length) (by omega) (by decide) (by omega);unfold attE at hoT;obtain⟨x,hx⟩:∃x,zcm s k1=x:=⟨_,rfl⟩;rw[hx]at hW hI hEq hwl hoT;obtain⟨k2,hk2⟩:∃k2,k1+x.length=k2:=⟨_,rfl⟩;rw[hk2]at hEq hwl hoT;have ek2:(k1:Int)+(x.length:Int)=(k2:Nat):=by omega
 simp only[bR,zas,n0,e111];cases hp:zav s [62] k1 with
 |true=>
  rw[hp]at hT hoT;simp only[if_true]at hoT;rw[hoT];dsimp only;simp(maxSteps:=999999) (disch:=first|assumption|omega) only[go_sem,simprocAttr,au,zbq,hz,ez0,hG,hT,zbe,zax]
 |false=>
  rw[hp]at hT;by_cases hg0:g.length=0
  ·have hg1:(k1=k)=True:=eq_true (by omega)
   rw[hT0 hg0 hp];dsimp only;refine⟨⟨111,w,[],l,fr,0⟩,[(137,zas ⟨111,w,[],l,fr,0⟩),(210,zbx ⟨x,[],0,0⟩)],?_⟩;simp only[zas,zbx,e111,n0];simp(maxSteps:=999999) (disch:=first|assumption|omega) only[go_sem,simprocAttr,au,zbq,hz,ez0,hG,hT,hW,hg1,zbe,zax]
  ·have hg1:(k1=k)=False:=eq_false (by omega)
   rw[hp]at hoT;simp only[wbf,if_false,hg0,false_or]at hoT;rw[hoT];cases hc1:znv.contains x with
   |false=>
    rw[hc1]at hI;simp only[wdd,wbf,if_false];refine⟨⟨111,w,[],l,fr,0⟩,[(137,zas ⟨111,w,[],l,fr,0⟩),(210,zbx ⟨x,[],0,0⟩)],?_⟩;simp only[zas,zbx,e111,n0];simp(maxSteps:=999999) (disch:=first|assumption|omega) only[go_sem,simprocAttr,au,zbq,hz,ez0,hG,hT,hW,hI,hat,hg1,zbh,zbe,zax]
   |true=>
    rw[hc1]at hI;simp only[wbh];cases hp2:zav s [61,34] k2 with
    |false=>
     rw[hp2]at hEq;simp only[wbf,if_false];refine⟨⟨111,w,[],l,fr,0⟩,[(137,zas ⟨111,w,[],l,fr,0⟩),(210,zbx ⟨x,[],0,0⟩)],?_⟩;simp only[zas,zbx,e111,n0];simp(maxSteps:=999999) (disch:=first|assumption|omega) only[go_sem,simprocAttr,au,zbq,hz,ez0,hG,hT,hW,hI,hat,hEq,ek2,hg1,zbh,zbe,zax]
    |true=>
     rw[hp2]at hEq;have h2:=zt5 hwl (by rw[<-zc5 hwl];exact hp2);simp only[waf,wdb,wbx,Nat.reduceAdd]at h2;simp only[if_true];obtain⟨k3,hk3⟩:∃k3,k2+2=k3:=⟨_,rfl⟩;rw[hk3]at h2⊢;have ek3:(k2:Int)+2=(k3:Nat):=by omega
     have hS:=yal (lib:=lib) s 34 60 k3 hs h2;rw[e34,e60]at hS;have hD:=yu0 (lib:=lib) s w fr k1 ⟨x,[],0,0⟩ l (by omega) [];simp only[bR,zas,zbx,e111,n0]at hD;cases hE:zqf s 34 60 k3 with
     |none=>
      rw[hE]at hS;cases hdup:l.any (fun c=>decide (c.name=x))with
      |true=>
       simp only[hdup,if_true]at hD;refine⟨⟨111,w,[],l,fr,0⟩,[(137,zas ⟨111,w,[],l,fr,0⟩),(210,zbx ⟨x,[],0,0⟩)],?_⟩;simp only[zas,zbx,e111,n0];simp(maxSteps:=999999) (disch:=first|assumption|omega) only[go_sem,simprocAttr,au,zbq,hz,ez0,hG,hT,hW,hI,hat,hEq,hD,ek2,hg1,zbh,zbe,zax]
      |false=>
       simp only[hdup,wbf,if_false]at hD;refine⟨⟨111,w,[],l,fr,0⟩,[(137,zas ⟨111,w,[],l,fr,0⟩),(210,zbx ⟨x,[],k3,0⟩)],?_⟩;simp only[zas,zbx,e111,n0];simp(maxSteps:=999999) (disch:=first|assumption|omega) only[go_sem,simprocAttr,au,zbq,hz,ez0,hG,hT,hW,hI,hat,hEq,hD,hS,ek2,ek3,hg1,zbh,zbe,zax]
     |some q=>
      obtain⟨v,p⟩:=q;rw[hE]at hS;have hel:=zk6 h2 hE;dsimp only at hS hel⊢;by_cases hpl:p<s.length
      ·simp only[hpl,if_true]
       cases hdup:l.any (fun c=>decide (c.name=x))with
       |true=>
        simp only[hdup,if_true]at hD⊢;refine⟨⟨111,w,[],l,fr,0⟩,[(137,zas ⟨111,w,[],l,fr,0⟩),(210,zbx ⟨x,[],0,0⟩)],?_⟩;simp only[zas,zbx,e111,n0];simp(maxSteps:=999999) (disch:=first|assumption|omega) only[go_sem,simprocAttr,au,zbq,hz,ez0,hG,hT,hW,hI,hat,hEq,hD,ek2,hg1,zbh,zbe,zax]
       |false=>
        simp only[hdup,wbf,if_false]at hD⊢;have hac:zbp l++[PV.flat (.string (S x)),.flat (.string (S v)),.flat (.int .i64 (k3:Nat)),.flat (.int .i64 (p:Nat))]=zbp (l++[⟨x,v,k3,p⟩]):=by rw[<-zz5];rfl
        have hbd:l.length+1<=bound:=by unfold bound;omega
        simp(maxSteps:=999999) (disch:=first|assumption|omega) only[go_sem,simprocAttr,au,zbq,hz,ez0,hG,hT,hW,hI,hat,hEq,hD,hS,ek2,ek3,hg1,zbh,zbe,zax,hac,hbd,wb0]
      ·simp only[hpl,if_false]
       cases hdup:l.any (fun c=>decide (c.name=x))with
       |true=>
        simp only[hdup,if_true]at hD;refine⟨⟨111,w,[],l,fr,0⟩,[(137,zas ⟨111,w,[],l,fr,0⟩),(210,zbx ⟨x,[],0,0⟩)],?_⟩;simp only[zas,zbx,e111,n0];simp(maxSteps:=999999) (disch:=first|assumption|omega) only[go_sem,simprocAttr,au,zbq,hz,ez0,hG,hT,hW,hI,hat,hEq,hD,ek2,hg1,zbh,zbe,zax]
       |false=>
        simp only[hdup,wbf,if_false]at hD;refine⟨⟨111,w,[],l,fr,0⟩,[(137,zas ⟨111,w,[],l,fr,0⟩),(210,zbx ⟨x,[],k3,0⟩)],?_⟩;simp only[zas,zbx,e111,n0];simp(maxSteps:=999999) (disch:=first|assumption|omega) only[go_sem,simprocAttr,au,zbq,hz,ez0,hG,hT,hW,hI,hat,hEq,hD,hS,ek2,ek3,hg1,zbh,zbe,zax]
end Nun

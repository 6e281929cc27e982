/- LetterNests answers true for all numbers and flags, at any start: texts of this proof, merged. -/
import Derived.Test.YtmpiobfdchlikaaGreatDoorNf
import Derived.Lib.Index
import Derived.Lib.IndexMore
import Derived.Lib.Strings
import Derived.Shelf.Strings.SlTrimAscii
import Derived.Laws.OwnMore
import Derived.Laws.IdiomStrings
import Derived.RangeFuncNested
import Derived.RangeFuncBound
import Derived.RangeFuncCalls
import Derived.RangeFuncLeaves
import Derived.RangeFuncBox
import Derived.Shelf.Abstract
import Derived.Shelf.RegionOpen
import Derived.OwnWalkIn
import Derived.TacticsInMore
import Derived.LoopNIn
import Derived.LoopIn
import Derived.ScopeJumps
import Derived.Lib.OthersKept
import Derived.StillTail
import Derived.Lib.QuietBelow
import Derived.RegionTactic
import Derived.ChangeAlike
set_option linter.unusedVariables false
set_option linter.unusedSimpArgs false
set_option maxHeartbeats 4000000
section
namespace Nun
open Go Go.RowKit Go.Proofs Go.Proofs.YtmpiobfdchlikaaGreatDoor
variable {lib:Callee}
def zq6 (lib:Callee):Prop:=∀ s w:Str,s.length≤1000000000→lib 59 [.flat (.string (S s)),.flat (.string (S w))] [] []=some ([.flat (.int .i64 (Lib.index s w))],false,[],[])
theorem z6x (H:zq6 lib) (s w:Str) (h:s.length≤1000000000):evW code lib 59 [.flat (.string (S s)),.flat (.string (S w))] [] []=some ([.flat (.int .i64 (Lib.index s w))],false,[],[]):=zd3 (by decide) (by kernel_rfl) (H s w h)
def zq7 (lib:Callee):Prop:=∀ s w:Str,s.length≤1000000000→lib 132 [.flat (.string (S s)),.flat (.string (S w))] [] []=some ([.flat (.string (S (if w.isPrefixOf s then s.drop w.length else s))),.flat (.bool (w.isPrefixOf s))],false,[],[])
theorem z6y (H:zq7 lib) (s w:Str) (h:s.length≤1000000000):evW code lib 132 [.flat (.string (S s)),.flat (.string (S w))] [] []=some ([.flat (.string (S (if w.isPrefixOf s then s.drop w.length else s))),.flat (.bool (w.isPrefixOf s))],false,[],[]):=zd3 (by decide) (by kernel_rfl) (H s w h)
theorem zir (H:zqn lib) (s p:Str) (hs:s.length≤1000000000) (hp:p.length≤1000000000):evW code lib 74 [.flat (.string (S s)),.flat (.string (S p))] [] []=some ([.flat (.bool (p.isPrefixOf s))],false,[],[]):=zd3 (by decide) (by kernel_rfl) (H s p hs hp)
def boT (s line:Str) (q:List Str × Nat × Nat):(List Str × Nat × Nat) ⊕ Option (List Str) :=
 if Lib.index (s.drop q.2.2) line=-1 then .inr none else
 let at_:=q.2.2+(Lib.index (s.drop q.2.2) line).toNat
 let behind:=s.drop (at_+line.length)
 if ([45,45,13,10]:Str).isPrefixOf behind then (if behind=[45,45,13,10] then .inr (some (q.1++[(s.take at_).drop q.2.1])) else .inr none)
 else if ([13,10]:Str).isPrefixOf behind then .inl (q.1++[(s.take at_).drop q.2.1],at_+line.length+2,at_+line.length+2)
 else .inl (q.1,q.2.1,at_+1)
def zc1 (mark:Str):Str:=[13,10,45,45]++mark
def zch (s mark:Str):Option (List Str) :=
 if (zc1 mark++[13,10]).isPrefixOf ([13,10]++s) then runS (boT (([13,10]++s).drop (zc1 mark++[13,10]).length) (zc1 mark)) none (s.length+1) ([],0,0) else none
theorem zpg {s w:Str} {n:Nat} (h:Lib.index s w≠-1):(Lib.index s w).toNat+w.length≤s.length∧Lib.index s w=((Lib.index s w).toNat:Int):=by
 have h1:=Lib.index_ge s w
 have h2:=Lib.index_room s w (by omega)
 exact ⟨by omega,by omega⟩
theorem zk7 (HN:zq6 lib) (HC:zq7 lib) (HP:zqn lib) (s mark:Str) (out:List Str) (hs:s.length≤100000000) (hm:mark.length≤1000000) (h:zch s mark=some out) (BX:List Str→zao) (oc:List (Nat × Nat)) (b p1 p2 nb:Nat)
 (h1:∀ a,(BX a)[p1]? =some (9,[.flat (.string (S mark))])) (h2:∀ a,(BX a)[p2]? =some (9,[.flat (.string (S s))])) (hlen:∀ a,(BX a).length=nb) (hoc:∀ q∈oc,q.1<nb)
 (hy:∀ a x,a.length≤s.length→evW code lib yldF [.yld b,.flat (.string (S x))] (BX a) (cl oc)=some ([.flat (.bool true)],false,BX (a++[x]),cl oc)) :
 evW code lib 131 [.yld b,.ptr p1 0,.ptr p2 0] (BX []) (cl oc)=some ([],false,BX out,cl oc):=by
 have hbv:bound=4294967296:=rfl
 unfold zch at h
 split at h
 case isFalse=>cases h
 rename_i hpre
 have hll:(zc1 mark).length=mark.length+4:=by unfold zc1;simp
 have c1:=z6y HC ([13,10]++s) (zc1 mark++[13,10]) (by simp;omega)
 rw [if_pos hpre,hpre] at c1
 have hpl:=zmc hpre
 simp only [List.length_append,List.length_cons,List.length_nil] at hpl
 have hrl:(([13,10]++s).drop (zc1 mark++[13,10]).length).length≤s.length:=by simp only [List.length_drop,List.length_append,List.length_cons,List.length_nil];omega
 obtain ⟨rest,hrest⟩:∃ r,([13,10]++s).drop (zc1 mark++[13,10]).length=r:=⟨_,rfl⟩
 rw [hrest] at h c1 hrl
 simp only [List.cons_append,List.nil_append] at c1
 obtain ⟨line,hline⟩:∃ l,zc1 mark=l:=⟨_,rfl⟩
 have e1:S (13::10::45::45::mark)=S line:=by rw [← hline];rfl
 rw [hline] at h c1 hll
 have hm0:=zbj (lib:=lib) 7
 have h7:((7:Nat):Int)=7:=rfl
 rw [h7] at hm0
 have hloop:=zmb (body:=evC (evW code lib) big zbg) (live:=[0,4,5,7,8]) (nb:=nb) (fun q:List Str × Nat × Nat=>(⟨[(0,.yld b),(4,.flat (.string (S line))),(5,.flat (.string (S rest))),(7,.flat (.int .i64 (q.2.1:Nat))),(8,.flat (.int .i64 (q.2.2:Nat)))],cl oc,[],BX q.1⟩:St))
  (fun q=>q.2.1≤q.2.2∧q.2.2≤rest.length∧q.1.length≤q.2.2∧∃ n,rest.length+1≤n+q.2.2∧runS (boT rest line) none n q=some out) (fun q=>rest.length - q.2.2)
  (fun q=>(.ret,⟨[],cl oc,[],BX out⟩)) (fun q hq=>?_) (n:=big) (a:=([],0,0)) ⟨Nat.le_refl _,Nat.zero_le _,Nat.le_refl _,s.length+1,by dsimp only;omega,h⟩ (by unfold big;dsimp only;omega)
 ·simp only [n0] at hloop
  have g1:=h1 []
  have g2:=h2 []
  have g3:=hlen []
  have g4:=hlen out
  have g5:=zgc oc hoc
  refine zbw zem (Nat.le_of_ble_eq_true rfl) ?_
  have e2:S (line++[13,10])=S (line++[13,10]):=rfl
  clear h
  simp (maxSteps:=999999) (disch:=first | assumption | omega) only [go_sem,simprocAttr,au,g1,g2,g3,g4,e1,c1,hm0,zea,zd4,zc5,zeb,zdg,zbx g3,zbx g4,g5,hloop]
 ·obtain ⟨a,fr,at_⟩:=q
  obtain ⟨k1,k2,k3,n,k4,k5⟩:=hq
  dsimp only at k1 k2 k3 k4 k5 ⊢
  cases n with
  | zero=>omega
  | succ n =>
    have i1:=z6x HN (rest.drop at_) line (by rw [List.length_drop];omega)
    by_cases hno:Lib.index (rest.drop at_) line=-1
    ·rw [zca (r:=none) (by unfold boT;dsimp only;rw [if_pos hno])] at k5;cases k5
    ·obtain ⟨r1,r2⟩:=zpg (n:=0) hno
     rw [List.length_drop] at r1
     obtain ⟨i,hi⟩:∃ i,(Lib.index (rest.drop at_) line).toNat=i:=⟨_,rfl⟩
     rw [hi] at r1 r2
     rw [r2] at i1
     have hst:boT rest line (a,fr,at_)=(if ([45,45,13,10]:Str).isPrefixOf (rest.drop (at_+i+line.length)) then (if rest.drop (at_+i+line.length)=[45,45,13,10] then .inr (some (a++[(rest.take (at_+i)).drop fr])) else .inr none)
      else if ([13,10]:Str).isPrefixOf (rest.drop (at_+i+line.length)) then .inl (a++[(rest.take (at_+i)).drop fr],at_+i+line.length+2,at_+i+line.length+2) else .inl (a,fr,at_+i+1)):=by
      unfold boT;dsimp only;rw [if_neg hno,hi]
     have tn:((at_:Int)+(i:Int)+(line.length:Int)).toNat=at_+i+line.length:=by omega
     have g1:=hlen a
     have g5:=zgc oc hoc
     have p1':=zir HP (rest.drop (at_+i+line.length)) [45,45,13,10] (by rw [List.length_drop];omega) (by decide)
     have p2':=zir HP (rest.drop (at_+i+line.length)) [13,10] (by rw [List.length_drop];omega) (by decide)
     have tk:rest.take rest.length=rest:=List.take_length
     have hyy:=hy a ((rest.take (at_+i)).drop fr) (by omega)
     have g2:=hlen (a++[(rest.take (at_+i)).drop fr])
     cases hp1:([45,45,13,10]:Str).isPrefixOf (rest.drop (at_+i+line.length)) with
     | true =>
       rw [hp1] at hst p1'
       simp only [if_true] at hst
       by_cases heq:rest.drop (at_+i+line.length)=[45,45,13,10]
       ·rw [if_pos heq] at hst
        rw [zca hst] at k5
        simp only [Option.some.injEq] at k5
        left
        refine ⟨_,_,?_,(by simp),rfl⟩
        have hq:=eq_true heq
        rw [← k5]
        clear hst k5 k4 h hy
        simp (maxSteps:=999999) (disch:=first | assumption | omega) only [go_sem,simprocAttr,au,zcj,tk,tn,i1,hm0,p1',hq,hyy,g1,g2,zea,zd4,zc5,zeb,zdg,zbx g1,zbx g2,g5,zfa]
       ·rw [if_neg heq] at hst
        rw [zca hst] at k5;cases k5
     | false =>
       rw [hp1] at hst p1'
       simp only [Bool.false_eq_true,if_false] at hst
       cases hp2:([13,10]:Str).isPrefixOf (rest.drop (at_+i+line.length)) with
       | true =>
         rw [hp2] at hst p2'
         simp only [if_true] at hst
         rw [zc6 hst] at k5
         right
         have hl2:=zmc hp2
         rw [List.length_drop] at hl2
         simp only [List.length_cons,List.length_nil] at hl2
         refine ⟨⟨[(0,.yld b),(4,.flat (.string (S line))),(5,.flat (.string (S rest))),(7,.flat (.int .i64 ((at_+i+line.length+2:Nat):Nat))),(8,.flat (.int .i64 ((at_+i+line.length+2:Nat):Nat)))],cl oc,[],BX (a++[(rest.take (at_+i)).drop fr])⟩,(a++[(rest.take (at_+i)).drop fr],at_+i+line.length+2,at_+i+line.length+2),?_,?_,⟨Nat.le_refl _,by dsimp only;omega,by simp only [List.length_append,List.length_cons,List.length_nil];omega,n,by dsimp only;omega,k5⟩,by dsimp only;omega,rfl⟩
         ·clear hst k5 k4 h hy
          simp (maxSteps:=999999) (disch:=first | assumption | omega) only [go_sem,simprocAttr,au,zcj,tk,tn,i1,hm0,p1',p2',hyy,g1,g2,zea,zd4,zc5,zeb,zdg,zbx g1,zbx g2,g5,zfa]
         ·simp (maxSteps:=999999) (disch:=first | assumption | omega) only [go_sem,simprocAttr,au,g2,zea,zd4,zc5,zeb,zdg,zbx g2,g5]
       | false =>
         rw [hp2] at hst p2'
         simp only [Bool.false_eq_true,if_false] at hst
         rw [zc6 hst] at k5
         right
         refine ⟨⟨[(0,.yld b),(4,.flat (.string (S line))),(5,.flat (.string (S rest))),(7,.flat (.int .i64 (fr:Nat))),(8,.flat (.int .i64 ((at_+i+1:Nat):Nat)))],cl oc,[],BX a⟩,(a,fr,at_+i+1),?_,?_,⟨by dsimp only;omega,by dsimp only;omega,by dsimp only;omega,n,by dsimp only;omega,k5⟩,by dsimp only;omega,rfl⟩
         ·clear hst k5 k4 h hy
          simp (maxSteps:=999999) (disch:=first | assumption | omega) only [go_sem,simprocAttr,au,zcj,tk,tn,i1,hm0,p1',p2',g1,zea,zd4,zc5,zeb,zdg,zbx g1,g5,zfa]
         ·simp (maxSteps:=999999) (disch:=first | assumption | omega) only [go_sem,simprocAttr,au,g1,zea,zd4,zc5,zeb,zdg,zbx g1,g5]
theorem zd2 (s mark:Str) (bx:zao) (oc:List (Nat × Nat)) (h:∀ q∈oc,q.1<bx.length):evW code lib 77 [.flat (.string (S s)),.flat (.string (S mark))] bx (cl oc)=some ([.clo 131 [.ptr (bx.length+1) 0,.ptr bx.length 0]],false,bx++[(9,[.flat (.string (S s))]),(9,[.flat (.string (S mark))])],cl oc):=by
 refine zbw zmy (Nat.le_of_ble_eq_true rfl) ?_
 have h3:¬ (bx.length+1+1=bx.length):=by omega
 have h4:zcq (bx.length+1+1) (cl oc)=cl oc:=zgc _ fun q hq=>by have:=h q hq;omega
 have h5:bx.length+1+1=bx.length+2:=rfl
 simp only [go_sem,simprocAttr,zea,zd4,zc5,zeb,List.length_append,h3,Nat.lt_irrefl,h4,List.append_assoc]
end Nun
end
section
namespace Nun
open Go
theorem zwd {l:List UInt8} {k n:Nat} (h:crAt l=some k) (hn:k+2≤n) (m:List UInt8):crAt (l.take n++m)=some k:=by
 have hl:=zgw h
 have e:∀ i:Nat,i<k+2→(l.take n++m)[i]? =l[i]? :=fun i hi=>by
  rw [List.getElem?_append_left (by rw [List.length_take];omega),List.getElem?_take_of_lt (by omega)]
 have h1:=zm2 h
 refine yiy ⟨by rw [e k (by omega)];exact h1.1,by rw [e (k+1) (by omega)];exact h1.2⟩ fun i hi=>?_
 rw [e i (by omega),e (i+1) (by omega)]
 exact zk5 h i hi
theorem yct (n:Nat):∀ (l:List UInt8) (a:Nat) (st:List Fld × Bool) (f:List Fld) (t:Bool) (b:Nat),l.length≤n→zb6 (itL l a) st=some (f,t,b) →
 a+2≤b∧b≤a+l.length∧∀ m,zb6 (itL (l.take (b - a)++m) a) st=some (f,t,b):=by
 induction n with
 | zero =>
   intro l a st f t b hl h
   rw [qz (l:=l) (by omega),zex rfl] at h;cases h
 | succ n ih =>
   intro l a st f t b hl h
   rcases hc:crAt l with _ | k
   ·rw [zex hc] at h;cases h
   ·have hlt:=zgw hc
    rw [zg9 hc,zb6] at h
    by_cases hk:k=0
    ·subst hk
     rw [if_pos (by simp)] at h
     cases h
     refine ⟨by omega,by omega,fun m=>?_⟩
     rw [zg9 (zwd hc (by omega) m),zb6,if_pos (by simp)]
    ·have hne:l.take k≠[]:=by
      intro h0
      have:=congrArg List.length h0
      rw [List.length_take,List.length_nil] at this;omega
     rw [if_neg hne,if_neg hk] at h
     rcases hs:za6 st (l.take k) with _ | st'
     ·rw [hs] at h;cases h
     ·rw [hs] at h
      obtain ⟨h1,h2,h3⟩:=ih (l.drop (k+2)) (a+k+2) st' f t b (by rw [List.length_drop];omega) h
      rw [List.length_drop] at h2
      refine ⟨by omega,by omega,fun m=>?_⟩
      have hd:(l.take (b - a)++m).drop (k+2)=(l.drop (k+2)).take (b - (a+k+2))++m:=by
       rw [List.drop_append_of_le_length (by rw [List.length_take];omega),List.drop_take,show b - a - (k+2)=b - (a+k+2) by omega]
      have ht:(l.take (b - a)++m).take k=l.take k:=by
       rw [List.take_append_of_le_length (by rw [List.length_take];omega),List.take_take,Nat.min_eq_left (by omega)]
      rw [zg9 (zwd hc (by omega) m),zb6,ht,if_neg hne,if_neg hk,hs,hd]
      exact h3 m
theorem z18 {l:List UInt8} {F:List Fld} {b:Nat} (h:zba l=.ok F b):b≤l.length∧∀ m,zba (l.take b++m)=.ok F b:=by
 unfold zba at h ⊢
 rcases hr:zb6 (itL l 0) ([],false) with _ | ⟨f,_ | _,b'⟩
 ·rw [hr] at h;cases h
 ·rw [hr] at h;cases h
  obtain ⟨_,h2,h3⟩:=yct _ l 0 _ _ _ _ (Nat.le_refl _) hr
  exact ⟨by omega,fun m=>by have h4:=h3 m;rw [Nat.sub_zero] at h4;rw [h4]⟩
 ·rw [hr] at h;cases h
theorem zq8:∀ (xs:List (List UInt8 × Nat)) (st:List Fld × Bool) (f:List Fld) (t:Bool) (b:Nat),zb6 xs st=some (f,t,b)→f.length≤st.1.length+xs.length
 | [],_,_,_,_,h=>by cases h
 | (ln,a)::r,st,f,t,b,h=>by
   rw [zb6] at h
   by_cases hl:ln=[]
   ·rw [if_pos hl] at h;cases h;exact Nat.le_add_right _ _
   ·rw [if_neg hl] at h
    rcases hs:za6 st ln with _ | st'
    ·rw [hs] at h;cases h
    ·rw [hs] at h
     have h1:=zq8 r st' f t b h
     have h2:st'.1.length≤st.1.length+1:=by
      unfold za6 at hs
      split at hs
      ·cases hs
      ·split at hs
       ·split at hs
        ·cases hs
        ·cases hs
         simp
       ·split at hs
        ·cases hs
        ·split at hs
         ·cases hs;simp
         ·cases hs
     rw [List.length_cons];omega
theorem z19 {l:List UInt8} {F:List Fld} {b:Nat} (h:zba l=.ok F b):F.length≤l.length:=by
 unfold zba at h
 rcases hr:zb6 (itL l 0) ([],false) with _ | ⟨f,_ | _,b'⟩
 ·rw [hr] at h;cases h
 ·rw [hr] at h;cases h
  have h1:=zq8 _ _ _ _ _ hr
  have h2:=zqx _ l 0 (Nat.le_refl _)
  rw [List.length_map];simp only [List.length_nil] at h1;omega
 ·rw [hr] at h;cases h
def wF:List Fld→Nat
 | []=>0
 | f::l=>f.1.length+f.2.length+wF l
theorem z6z:∀ a b:List Fld,wF (a++b)=wF a+wF b
 | [],b=>by simp [wF]
 | f::a,b=>by simp only [List.cons_append,wF,z6z a b];omega
theorem yej:∀ {F:List Fld} {f:Fld},f∈F→f.1.length+f.2.length≤wF F
 | g::l,f,h=>by
   rcases List.mem_cons.1 h with rfl | h
   ·simp only [wF];omega
   ·have:=yej h;simp only [wF];omega
theorem yi4 {st st':List Fld × Bool} {l:List UInt8} (h:za6 st l=some st'):wF st'.1≤wF st.1+l.length:=by
 unfold za6 at h
 split at h
 ·cases h
 split at h
 ·split at h
  ·cases h
  ·rename_i p hp
   cases h
   have:st.1=st.1.dropLast++[p]:=by
    have hne:st.1≠[]:=by intro e;rw [e] at hp;cases hp
    have h2:=List.dropLast_concat_getLast hne
    rw [List.getLast?_eq_some_getLast hne] at hp
    cases hp
    exact h2.symm
   rw [this]
   simp only [List.dropLast_concat,z6z,wF,List.length_append];omega
 ·split at h
  ·cases h
  ·split at h
   ·cases h
    simp only [z6z,wF,List.length_take,List.length_drop];omega
   ·cases h
def wI:List (List UInt8 × Nat)→Nat
 | []=>0
 | x::l=>x.1.length+wI l
theorem yek:∀ (xs:List (List UInt8 × Nat)) (st:List Fld × Bool) (f:List Fld) (t:Bool) (b:Nat),zb6 xs st=some (f,t,b)→wF f≤wF st.1+wI xs
 | [],st,f,t,b,h=>by cases h
 | (ln,a)::r,st,f,t,b,h=>by
   rw [zb6] at h
   split at h
   ·cases h;omega
   ·split at h
    ·cases h
    ·rename_i s1 h1
     have h2:=yek r s1 f t b h
     have h3:=yi4 h1
     simp only [wI];omega
theorem ypj (n:Nat):∀ (l:List UInt8) (a:Nat),l.length≤n→wI (itL l a)≤l.length:=by
 induction n with
 | zero =>
   intro l a h
   rw [qz (l:=l) (by omega),zex rfl];simp [wI]
 | succ n ih =>
   intro l a h
   rcases hc:crAt l with _ | k
   ·rw [zex hc];simp [wI]
   ·have:=zgw hc
    rw [zg9 hc,wI,List.length_take]
    by_cases hk:k=0
    ·rw [if_pos hk];simp [wI];omega
    ·rw [if_neg hk]
     have h2:=ih (l.drop (k+2)) (a+k+2) (by rw [List.length_drop];omega)
     rw [List.length_drop] at h2;omega
theorem z60 (l:List UInt8):(trimB l).length≤l.length:=by
 unfold trimB zen
 rw [List.length_reverse]
 have h1:=zbc zal (l.dropWhile zal).reverse
 have h2:=zbc zal l
 rw [List.length_reverse] at h1
 omega
theorem z61:∀ F:List Fld,wF (F.map fun p=>(p.1,trimB p.2))≤wF F
 | []=>Nat.le_refl _
 | f::F=>by
   have h1:=z61 F
   have h2:=z60 f.2
   simp only [List.map_cons,wF];omega
theorem ycu {l:List UInt8} {F:List Fld} {b:Nat} (h:zba l=.ok F b):wF F≤l.length:=by
 unfold zba at h
 split at h
 ·cases h
 ·cases h
 ·rename_i f b' hr
  cases h
  have h1:=yek _ _ _ _ _ hr
  have h2:=ypj _ l 0 (Nat.le_refl _)
  have h3:=z61 f
  simp only [wF] at h1
  omega
theorem zaz {l:List UInt8} {F:List Fld} {b:Nat} (h:zba l=.ok F b) (hl:l.length≤1000000):ziq F∧b≤l.length∧∀ f∈F,f.1.length≤l.length∧f.2.length≤l.length:=by
 have h1:=ycu h
 have h2:=z19 h
 refine ⟨⟨by omega,fun f hf=>?_⟩,(z18 h).1,fun f hf=>?_⟩<;>(have:=yej hf;omega)
theorem zau {n:Str} {k:Nat}:∀ (F:List Fld) (q:Str × Nat),q.1.length≤k→(∀ f∈F,f.2.length≤k)→(getS n F q).1.length≤k
 | [],q,h,_=>h
 | (a,b)::F,q,h,hF=>by
   rw [getS]
   split
   ·refine zau F _ ?_ fun f hf=>hF f (by simp [hf])
    dsimp only
    split
    ·exact hF (a,b) (by simp)
    ·exact h
   ·exact zau F _ h fun f hf=>hF f (by simp [hf])
theorem zq9 (k:Nat):∀ (n:Nat) (l:List UInt8) (out:List Fld) (tw:Bool) (out':List Fld) (tw':Bool),zjw n l out tw=some (out',tw')→l.length≤k→(∀ f∈out,f.1.length≤k∧f.2.length≤k)→out'.length≤out.length+l.length∧∀ f∈out',f.1.length≤k∧f.2.length≤k
 | 0,_,_,_,_,_,h,_,_=>by cases h
 | n+1,l,out,tw,out',tw',h,hl,ho=>by
   rw [zjw] at h
   split at h
   ·cases h;exact ⟨by omega,ho⟩
   ·have hdl:=zbc zal l
    split at h
    ·cases h
    ·rename_i t hs
     have ht:t.length<(l.dropWhile zal).length:=by
      unfold zes at hs
      split at hs
      ·cases hs
      ·rename_i d t' e
       split at hs
       ·cases hs;rw [e];simp
       ·cases hs
     split at h
     ·cases h
     ·rename_i p r hp
      have hpl:=zk6 hp
      dsimp only at hpl
      obtain ⟨k1,k2⟩:=zq9 k n r (out++[p]) _ out' tw' h (by omega) (fun f hf=>by
       rcases List.mem_append.1 hf with hf | hf
       ·exact ho f hf
       ·simp at hf;subst hf;exact ⟨by omega,by omega⟩)
      refine ⟨?_,k2⟩
      rw [List.length_append] at k1
      simp only [List.length_cons,List.length_nil] at k1
      omega
theorem zln (p:UInt8→Bool):∀ l:List UInt8,(l.takeWhile p).length≤l.length
 | []=>Nat.le_refl _
 | c::l=>by
   rw [List.takeWhile_cons]
   split
   ·have:=zln p l;simp only [List.length_cons];omega
   ·simp
theorem zaq {v m:List UInt8} {l:List Fld} (h:zbr v=.ok m l) (hv:v.length≤10000):ziq l∧m.length≤v.length:=by
 unfold zbr at h
 split at h
 ·cases h
 ·rename_i out tw hlo
  split at h
  ·cases h
  split at h
  ·cases h
  cases h
  have h1:=zbc zal v
  have h2:=zbc zbb (v.dropWhile zal)
  obtain ⟨k1,k2⟩:=zq9 10000 _ _ _ _ _ _ hlo (by omega) (fun f hf=>by cases hf)
  have h3:=zln zbb (v.dropWhile zal)
  refine ⟨⟨?_,fun f hf=>?_⟩,by omega⟩
  ·simp only [List.length_nil] at k1;omega
  ·have:=k2 f hf;omega
theorem zsw:∀ {a b:List PV},zcb (a++b)=(zcb a && zcb b)
 | [],b=>by simp [zcb]
 | v::a,b=>by simp only [List.cons_append,zcb,zsw (a:=a),Bool.and_assoc]
theorem zph {n:Nat}:∀ {a b:List PV},lows n (a++b)=(lows n a && lows n b)
 | [],b=>by simp [lows]
 | v::a,b=>by simp only [List.cons_append,lows,zph (a:=a),Bool.and_assoc]
inductive LP where
 | mk (F:List Fld) (ty tx:Str) (ps:List LP)
mutual
def LP.cells:LP→List PV
 | .mk F ty tx ps=>[.slc F.length (zac F),.flat (.string (S ty)),.flat (.string (S tx)),.slc ps.length (zaw ps)]
def zaw:List LP→List PV
 | []=>[]
 | p::r=>p.cells++zaw r
end
mutual
theorem LP.np:∀ p:LP,zcb p.cells=true
 | .mk F ty tx ps=>by simp only [LP.cells,zcb,PV.noPtr,zak,zcl ps,Bool.and_self]
theorem zcl:∀ l:List LP,zcb (zaw l)=true
 | []=>rfl
 | p::r=>by rw [zaw,zsw,LP.np p,zcl r];rfl
end
mutual
theorem LP.low {n:Nat}:∀ p:LP,lows n p.cells=true
 | .mk F ty tx ps=>by simp only [LP.cells,lows,PV.low,zae,zax ps,Bool.and_self]
theorem zax {n:Nat}:∀ l:List LP,lows n (zaw l)=true
 | []=>rfl
 | p::r=>by rw [zaw,zph,LP.low p,zax r];rfl
end
theorem LP.len (p:LP):p.cells.length=4:=by cases p;rfl
theorem zei:∀ l:List LP,(zaw l).length=l.length * 4
 | []=>rfl
 | p::r=>by rw [zaw,List.length_append,LP.len,zei r,List.length_cons];omega
theorem zk8:∀ a b:List LP,zaw a++zaw b=zaw (a++b)
 | [],b=>rfl
 | p::a,b=>by rw [zaw,List.append_assoc,zk8 a b];rfl
theorem zhu:∀ l:List LP,noU8 (zaw l)=true
 | []=>rfl
 | .mk F ty tx ps::r=>by rw [zaw,zzd,zhu r];rfl
def zf7 (f:Str→Nat→Except Nat (LP × Nat)):List Str→Nat→Except Nat (List LP × Nat)
 | [],n=>.ok ([],n)
 | b::r,n=>match f b n with
   | .error e=>.error e
   | .ok (p,n')=>match zf7 f r n' with
     | .error e=>.error e
     | .ok (ps,m)=>.ok (p::ps,m)
def za1:Str:=[109,117,108,116,105,112,97,114,116,47]
def codP (F:List Fld):Str:=zab (if (getU sCte F).2=0 then zbn else (getU sCte F).1)
def zft (rec:Option (Str→Nat→Except Nat (LP × Nat))) (s:Str) (n:Nat):Except Nat (LP × Nat) :=
 match zba s with
 | .form=>.error 7
 | .long=>.error 6
 | .ok F at_=>match zds F with
   | .error e=>.error e
   | .ok (ty,mk) =>
     if za1.isPrefixOf ty=false then (match zkj (s.drop at_) (codP F) with
      | none=>.error 7
      | some t=>.ok (.mk F ty t [],n))
     else if codP F=zbn∧zht mk=true then (match zch (s.drop at_) mk with
      | none=>.error 7
      | some all=>match rec with
        | none=>.error 8
        | some f=>if n+all.length≤64 then (match zf7 f all (n+all.length) with
          | .error e=>.error e
          | .ok (ps,m)=>.ok (.mk F ty [] ps,m)) else .error 5)
     else .error 7
def zed:Nat→Str→Nat→Except Nat (LP × Nat)
 | 0=>zft none
 | d+1=>zft (some (zed d))
end Nun
end
section
namespace Nun
open Go Go.RowKit Go.Proofs Go.Proofs.YtmpiobfdchlikaaGreatDoor
variable {lib:Callee}
structure BxAt (B:Nat→zao) (n b e:Nat) (c:Nat→List PV) (r:List (Nat × Nat)):Prop where
 len:∀ j,(B j).length=n
 get:∀ j,(B j)[b]? =some (e,c j)
 set:∀ i j,(B j).set b (e,c i)=B i
 lt:b<n
 low:∀ j,zcf n (B j)=true
 hlt:∀ q∈r,q.1<n
 hne:∀ q∈r,q.1≠b
section
variable {B:Nat→zao} {n b e:Nat} {c:Nat→List PV} {r:List (Nat × Nat)}
theorem BxAt.app (H:BxAt B n b e c r) {m:Nat} (ys:zao) (hm:n+ys.length=m) (hl:zcf m ys=true) (r':List (Nat × Nat)) (hr:∀ q∈r',q∈r∨(n≤q.1∧q.1<m)):BxAt (fun j=>B j++ys) m b e c r' where
 len j:=by rw [List.length_append,H.len];exact hm
 get j:=by rw [List.getElem?_append_left (by rw [H.len];exact H.lt),H.get]
 set i j:=by rw [List.set_append_left _ _ (by rw [H.len];exact H.lt),H.set]
 lt:=by have:=H.lt;omega
 low j:=by rw [zx3,znx (by omega) _ (H.low j),hl];rfl
 hlt q hq:=by
  rcases hr q hq with h | h
  ·have:=H.hlt q h;omega
  ·exact h.2
 hne q hq:=by
  rcases hr q hq with h | h
  ·exact H.hne q h
  ·have:=H.lt;omega
theorem BxAt.a_get (H:BxAt B n b e c r) (j:Nat) (ys:zao):(B j++ys)[b]? =some (e,c j):=by rw [List.getElem?_append_left (by rw [H.len];exact H.lt),H.get]
theorem BxAt.a_0 (H:BxAt B n b e c r) (j:Nat) (ys:zao):(B j++ys)[n]? =ys[0]? :=by rw [List.getElem?_append_right (by rw [H.len];omega),H.len,Nat.sub_self]
theorem BxAt.a_1 (H:BxAt B n b e c r) (j i:Nat) (ys:zao):(B j++ys)[n+i]? =ys[i]? :=by rw [List.getElem?_append_right (by rw [H.len];omega),H.len,Nat.add_sub_cancel_left]
theorem BxAt.a_set (H:BxAt B n b e c r) (i j:Nat) (ys:zao):(B j++ys).set b (e,c i)=B i++ys:=by rw [List.set_append_left _ _ (by rw [H.len];exact H.lt),H.set]
theorem BxAt.a_s0 (H:BxAt B n b e c r) (j:Nat) (ys:zao) (q:Nat × List PV):(B j++ys).set n q=B j++ys.set 0 q:=by rw [List.set_append_right _ _ (by rw [H.len];omega),H.len,Nat.sub_self]
theorem BxAt.a_s1 (H:BxAt B n b e c r) (j i:Nat) (ys:zao) (q:Nat × List PV):(B j++ys).set (n+i) q=B j++ys.set i q:=by rw [List.set_append_right _ _ (by rw [H.len];omega),H.len,Nat.add_sub_cancel_left]
theorem BxAt.a_len (H:BxAt B n b e c r) (j:Nat) (ys:zao):(B j++ys).length=n+ys.length:=by rw [List.length_append,H.len]
theorem BxAt.a_take (H:BxAt B n b e c r) (j:Nat) (ys:zao):(B j++ys).take n=B j:=by rw [List.take_append_of_le_length (by rw [H.len];omega),List.take_of_length_le (by rw [H.len];omega)]
theorem BxAt.a_take1 (H:BxAt B n b e c r) (j i:Nat) (ys:zao):(B j++ys).take (n+i)=B j++ys.take i:=by
 rw [List.take_append,H.len,Nat.add_sub_cancel_left,List.take_of_length_le (by rw [H.len];omega)]
theorem BxAt.d_0 (H:BxAt B n b e c r) (o m:Nat):zhp n o m (cl r)=cl r:=zuc r H.hlt
theorem BxAt.d_b (H:BxAt B n b e c r) (o:Nat):zhp b o 1 (cl r)=cl r:=zpb r fun q hq e=>H.hne q hq (by rw [e])
theorem BxAt.d_1 (H:BxAt B n b e c r) (i o m:Nat):zhp (n+i) o m (cl r)=cl r:=zuc r fun q hq=>by have:=H.hlt q hq;omega
theorem BxAt.u_0 (H:BxAt B n b e c r):zcq n (cl r)=cl r:=zgc r H.hlt
theorem BxAt.u_1 (H:BxAt B n b e c r) (i:Nat):zcq (n+i) (cl r)=cl r:=zgc r fun q hq=>by have:=H.hlt q hq;omega
theorem BxAt.l_0 (H:BxAt B n b e c r):ltO n (cl r)=cl r:=yib r H.hlt
theorem BxAt.l_1 (H:BxAt B n b e c r) (i:Nat):ltO (n+i) (cl r)=cl r:=yib r fun q hq=>by have:=H.hlt q hq;omega
theorem BxAt.dl_1 (H:BxAt B n b e c r) (i o:Nat):zfn (.cell (n+i) o) (cl r)=cl r:=zmz r fun q hq e=>by have:=H.hlt q hq;rw [e] at this;dsimp only at this;omega
theorem BxAt.dl_0 (H:BxAt B n b e c r) (o:Nat):zfn (.cell n o) (cl r)=cl r:=zmz r fun q hq e=>by have:=H.hlt q hq;rw [e] at this;dsimp only at this;omega
end
def z62 (lib:Callee):Prop:=∀ s:Str,s.length≤10000→lib 69 [.flat (.string (S s))] [] []=some ((match zba s with | .form=>[.slc 0 [],.flat (.int .i64 0),.flat (.int .i64 7)] | .long=>[.slc 0 [],.flat (.int .i64 0),.flat (.int .i64 6)] | .ok F at_=>[.slc F.length (zac F),.flat (.int .i64 (at_:Nat)),.flat (.int .i64 0)]),false,[],[])
theorem zlo (H:z62 lib) (s:Str) (h:s.length≤10000):evW code lib 69 [.flat (.string (S s))] [] []=some ((match zba s with | .form=>[.slc 0 [],.flat (.int .i64 0),.flat (.int .i64 7)] | .long=>[.slc 0 [],.flat (.int .i64 0),.flat (.int .i64 6)] | .ok F at_=>[.slc F.length (zac F),.flat (.int .i64 (at_:Nat)),.flat (.int .i64 0)]),false,[],[]):=zd3 (by decide) (by kernel_rfl) (H s h)
structure LibL (lib:Callee):Prop where
 idx:zll lib
 pre:zqn lib
 fold:zq0 lib
 alike:zjd lib
 rep:zq4 lib
 dq:z6u lib
 um:z6v lib
 par:zwa lib
 cut:zwb lib
 cutp:zq7 lib
 ind:zq6 lib
 spl:z62 lib
def rdr (j:Nat):List PV:=[.flat (.int .i64 (j:Nat))]
abbrev RT:Nat:=77
def Rec (lib:Callee) (f:Str→Nat→Except Nat (LP × Nat)) (deep:Nat):Prop:=∀ (B:Nat→zao) (n b:Nat) (r:List (Nat × Nat)),BxAt B n b RT rdr r→∀ (s:Str) (j:Nat) (p:LP) (m:Nat),s.length≤10000→j≤64→f s j=.ok (p,m) →
 evW code lib 39 [.ptr b 0,.flat (.string (S s)),.flat (.int .i64 (deep:Nat))] (B j) (cl r)=some ([.agg p.cells],false,B m,cl r)
theorem yi5 (L:LibL lib) {B:Nat→zao} {n b:Nat} {r:List (Nat × Nat)} (H:BxAt B n b RT rdr r) {deep j:Nat} {s:Str} (hs:s.length≤10000) {F:List Fld} {at_:Nat} (h1:zba s=.ok F at_) {ty mk:Str} (h2:zds F=.ok (ty,mk)) (h3:za1.isPrefixOf ty=false) {t:Str} (h4:zkj (s.drop at_) (codP F)=some t) :
 evW code lib 39 [.ptr b 0,.flat (.string (S s)),.flat (.int .i64 (deep:Nat))] (B j) (cl r)=some ([.agg (LP.mk F ty t []).cells],false,B j,cl r):=by
 obtain ⟨k1,k2,k3⟩:=zaz h1 (by omega)
 have f1:=zlo L.spl s hs
 rw [h1] at f1
 dsimp only at f1
 have hgl:(getU sCt F).1.length≤10000:=zau F _ (by simp) fun f hf=>by have:=(k3 f hf).2;omega
 have hgl2:(getU sCte F).1.length≤10000:=zau F _ (by simp) fun f hf=>by have:=(k3 f hf).2;omega
 have f2:=zkk L.alike L.fold L.par L.cut L.idx F ty mk k1 hgl (fun m l hp=>by have:=zaq hp hgl;exact ⟨this.1,by omega⟩) h2
 have f3:=zjq L.alike F sCte k1 (by decide)
 have hm0:=zbj (lib:=lib) 0
 rw [n0] at hm0
 have hfl:=zje L.fold (if (getU sCte F).2=0 then zbn else (getU sCte F).1) (by split<;>first | decide | omega)
 have f5:=yi3 L.idx L.rep L.dq L.um (s.drop at_) (codP F) t (by rw [List.length_drop];omega) h4
 have htyl:ty.length≤10000:=by
  unfold zds at h2
  split at h2
  ·split at h2
   ·cases h2;decide
   ·split at h2
    ·cases h2
    ·cases h2
    ·rename_i m l hp
     split at h2
     ·cases h2
      have:=(zaq hp hgl).2
      simp only [zab,List.length_map];omega
     ·cases h2
  ·cases h2
 have f4:=zir L.pre ty za1 (by omega) (by decide)
 rw [h3] at f4
 unfold za1 at f4
 unfold codP at f5
 unfold sCte at f3 hfl f5
 have hnp:=zak F
 have hlo:=fun n=>zae (n:=n) F
 have tk:(s.take s.length).drop at_=s.drop at_:=by rw [List.take_length]
 obtain ⟨u,hu'⟩:∃ v,getU [99,111,110,116,101,110,116,45,116,114,97,110,115,102,101,114,45,101,110,99,111,100,105,110,103] F=v:=⟨_,rfl⟩
 rw [hu'] at f3 hfl f5
 obtain ⟨u,k⟩:=u
 dsimp only at f3 hfl f5
 have hr1:=H.a_get;have hr2:=H.a_0;have hr3:=H.a_1;have hr4:=H.a_set;have hr5:=H.a_s0;have hr6:=H.a_s1;have hr7:=H.a_len;have hr8:=H.a_take;have hr9:=H.a_take1;have hrl:=H.len;have hlow:=H.low;have hd0:=H.d_0;have hd1:=H.d_1;have hu0:=H.u_0;have hu1:=H.u_1;have hl0:=H.l_0;have hl1:=H.l_1
 have hFl:=k1.1
 clear k1 k3 h1 h2 h3 h4 L H
 simp only [LP.cells,zaw]
 generalize zac F=fc at *
 refine zbw zaf (Nat.le_of_ble_eq_true rfl) ?_
 by_cases hk:k=0
 ·subst hk
  simp only [if_true] at hfl f5
  unfold zbn at hfl f5
  simp (maxSteps:=999999) (disch:=first | assumption | omega) only [go_sem,simprocAttr,au,f1,f2,f3,f4,f5,hfl,hm0,hnp,hlo,tk,hr1,hr2,hr3,hr4,hr5,hr6,hr7,hr8,hr9,hrl,hlow,hd0,hd1,hu0,hu1,hl0,hl1]
 ·have hk':((k:Int)=0)=False:=by apply eq_false;omega
  simp only [hk,if_false] at hfl f5
  simp (maxSteps:=999999) (disch:=first | assumption | omega) only [go_sem,simprocAttr,au,f1,f2,f3,f4,f5,hfl,hm0,hnp,hlo,tk,hk',hr1,hr2,hr3,hr4,hr5,hr6,hr7,hr8,hr9,hrl,hlow,hd0,hd1,hu0,hu1,hl0,hl1]
end Nun
end
section
namespace Nun
open Go Go.RowKit Go.Proofs Go.Proofs.YtmpiobfdchlikaaGreatDoor
variable {lib:Callee}
theorem zcw (a b:Nat) (r:List (Nat × Nat)):cl ((a,b)::r)=.cell a b::cl r:=rfl
def zad:List PV:=[.slc 0 [],.flat (.string (S [])),.flat (.string (S [])),.slc 0 []]
def zcz (k:Nat) (fc:List PV) (ty:Str) (ps:List LP):List PV:=[.slc k fc,.flat (.string (S ty)),.flat (.string (S [])),.slc ps.length (zaw ps)]
def bxL (n k:Nat) (fc:List PV) (ty s mk:Str) (ps:List LP) (out:List Str):zao:=[(48,zad),(48,zcz k fc ty ps),(39,[.slc out.length (zas out)]),(9,[.flat (.string (S s))]),(9,[.flat (.string (S mk))]),(0,[.lp 39 0 .ready [14] [.ptr (n+2) 0]])]
theorem zkl {i:Nat}:∀ m:List (Nat × Nat),zfn (.slot i) (cl m)=cl m
 | []=>rfl
 | (a,b)::m=>by rw [zcw,zt2,zkl m]
theorem zm7 {d:Nat}:∀ (m:List (Nat × Nat)) (l:List Loc),zag d (cl m++l)=cl m++zag d l
 | [],l=>rfl
 | (a,b)::m,l=>by rw [zcw,List.cons_append,znr,zm7 m];rfl
theorem zm8 {i:Nat}:∀ (m:List (Nat × Nat)) (l:List Loc),zfn (.slot i) (cl m++l)=cl m++zfn (.slot i) l
 | [],l=>rfl
 | (a,b)::m,l=>by rw [zcw,List.cons_append,zt2,zm8 m];rfl
theorem zm9 {i:Nat}:∀ (m:List (Nat × Nat)) (l:List Loc),owns (cl m++l) (.slot i)=owns l (.slot i)
 | [],l=>rfl
 | (a,b)::m,l=>by rw [zcw,List.cons_append,zxq,zm9 m]
theorem BxAt.a_low {B:Nat→zao} {n b e:Nat} {c:Nat→List PV} {r:List (Nat × Nat)} (H:BxAt B n b e c r) (j i:Nat) (ys:zao):zcf (n+i) (B j++ys)=zcf (n+i) ys:=by rw [zx3,znx (by omega) _ (H.low j),Bool.true_and]
theorem zis {B:Nat→zao} {n b:Nat} {r:List (Nat × Nat)} (H:BxAt B n b RT rdr r) (j k:Nat) (fc:List PV) (ty s mk x:Str) (out:List Str) (ho:out.length≤1000000) :
 evW code lib yldF [.yld (n+5),.flat (.string (S x))] (B j++bxL n k fc ty s mk [] out) (.cell (n+2) 0::.cell (n+1) 3::.cell n 0::.cell n 3::cl r)=some ([.flat (.bool true)],false,B j++bxL n k fc ty s mk [] (out++[x]),.cell (n+2) 0::.cell (n+1) 3::.cell n 0::.cell n 3::cl r):=by
 have hbv:bound=4294967296:=rfl
 have hr1:=H.a_get;have hr2:=H.a_0;have hr3:=H.a_1;have hr4:=H.a_set;have hr5:=H.a_s0;have hr6:=H.a_s1;have hr7:=H.a_len;have hr8:=H.a_take;have hr9:=H.a_take1;have hrl:=H.len;have hlow:=H.low;have hd0:=H.d_0;have hd1:=H.d_1;have hu0:=H.u_0;have hu1:=H.u_1;have hl0:=H.l_0;have hl1:=H.l_1;have hdl1:=H.dl_1;have hdl0:=H.dl_0
 clear H
 refine z5u yb4 zaf rfl (hr3 j 5 _) rfl ?_
 have h1:[PV.flat (.string (S x))]=zas [x]:=rfl
 unfold bxL zad zcz
 simp (maxSteps:=999999) (disch:=first | assumption | omega) only [go_sem,simprocAttr,au,zfb,zfc,za0,ze5,hr1,hr2,hr3,hr4,hr5,hr6,hr7,hr8,hr9,hrl,hlow,hd0,hd1,hu0,hu1,hl0,hl1,hdl0,hdl1]
 simp only [h1,zhg,List.length_append,List.length_cons,List.length_nil]
theorem zra {f:Str→Nat→Except Nat (LP × Nat)}:∀ (l:List Str) (n:Nat) (ps:List LP) (m:Nat),zf7 f l n=.ok (ps,m)→ps.length=l.length
 | [],n,ps,m,h=>by cases h;rfl
 | x::l,n,ps,m,h=>by
   unfold zf7 at h
   split at h
   ·cases h
   ·split at h
    ·cases h
    ·rename_i h2
     cases h
     simp only [List.length_cons,zra l _ _ _ h2]
theorem zz3 {f:Str→Nat→Except Nat (LP × Nat)} (hf:∀ s n p m,f s n=.ok (p,m)→n≤64→m≤64):∀ (l:List Str) (n:Nat) (ps:List LP) (m:Nat),zf7 f l n=.ok (ps,m)→n≤64→m≤64
 | [],n,ps,m,h,hn=>by cases h;exact hn
 | x::l,n,ps,m,h,hn=>by
   unfold zf7 at h
   split at h
   ·cases h
   ·rename_i h1
    split at h
    ·cases h
    ·rename_i h2
     cases h
     exact zz3 hf l _ _ _ h2 (hf _ _ _ _ h1 hn)
theorem zsx {rec:Option (Str→Nat→Except Nat (LP × Nat))} (hf:∀ f,rec=some f→∀ s n p m,f s n=.ok (p,m)→n≤64→m≤64) (s:Str) (n:Nat) (p:LP) (m:Nat) (h:zft rec s n=.ok (p,m)) (hn:n≤64):m≤64:=by
 unfold zft at h
 split at h
 ·cases h
 ·cases h
 split at h
 ·cases h
 split at h
 ·split at h
  ·cases h
  ·cases h;exact hn
 split at h
 ·split at h
  ·cases h
  split at h
  ·cases h
  rename_i f
  split at h
  ·rename_i hle
   split at h
   ·cases h
   ·rename_i h2
    cases h
    exact zz3 (hf f rfl) _ _ _ _ h2 hle
  ·cases h
 ·cases h
theorem zk9:∀ (d:Nat) (s:Str) (n:Nat) (p:LP) (m:Nat),zed d s n=.ok (p,m)→n≤64→m≤64
 | 0=>zsx fun f h=>by cases h
 | d+1=>zsx fun f h=>by cases h;exact zk9 d
def bx5 (k:Nat) (fc:List PV) (ty s mk:Str) (ps:List LP) (out:List Str):zao:=[(48,zad),(48,zcz k fc ty ps),(39,[.slc out.length (zas out)]),(9,[.flat (.string (S s))]),(9,[.flat (.string (S mk))])]
def ocL (n:Nat) (r:List (Nat × Nat)) (k:Nat):List Loc:=if k=0 then .cell (n+2) 0::.cell (n+1) 3::.cell n 0::.cell n 3::cl r else .cell (n+1) 3::.cell (n+2) 0::.cell n 0::.cell n 3::cl r
theorem zwe {f:Str→Nat→Except Nat (LP × Nat)} {B:Nat→zao} {n b:Nat} {r:List (Nat × Nat)} (H:BxAt B n b RT rdr r) {deep:Nat} (hdp:deep<4) (hrec:Rec lib f (deep+1)) (kf:Nat) (fc:List PV) (hlo:∀ n,lows n fc=true) (ty s mk:Str) {all:List Str} {k j j':Nat} {x:Str} {p:LP} {ps:List LP} (hk:k<all.length) (hc:all[k]? =some x) (hd:all.drop k=x::all.drop (k+1)) (hx:x.length≤10000) (hal:all.length≤64) (hps:ps.length=k) (hj:j≤64) (hfx:f x j=.ok (p,j')) :
 evC (evW code lib) big zan ⟨[(0,.ptr b 0),(2,.flat (.int .i64 (deep:Nat))),(6,.ptr n 0),(10,.ptr (n+1) 0),(91,.slc all.length (zas all)),(92,.flat (.int .i64 (all.length:Nat))),(93,.flat (.int .i64 (k:Nat)))],ocL n r k,[],B j++bx5 kf fc ty s mk ps all⟩
  = some (.normal,⟨[(0,.ptr b 0),(2,.flat (.int .i64 (deep:Nat))),(6,.ptr n 0),(10,.ptr (n+1) 0),(91,.slc all.length (zas all)),(92,.flat (.int .i64 (all.length:Nat))),(93,.flat (.int .i64 ((k+1:Nat):Nat)))],ocL n r (k+1),[],B j'++bx5 kf fc ty s mk (ps++[p]) all⟩):=by
 have hbv:bound=4294967296:=rfl
 have hlw:zcf (n+5) (bx5 kf fc ty s mk ps all)=true:=by
  have h1:=hlo (n+5)
  have h2:=zam (n:=n+5) all
  have h3:=zax (n:=n+5) ps
  simp only [bx5,zad,zcz,zcf,lows,PV.low,h1,h2,h3,Bool.and_self]
 have hin:∀ r':List (Nat × Nat),(∀ q∈r',q∈r∨(n≤q.1∧q.1<n+5))→BxAt (fun j=>B j++bx5 kf fc ty s mk ps all) (n+5) b RT rdr r':=fun r' hr=>H.app (m:=n+5) _ rfl hlw r' hr
 have hone:∀ a c,a<5→∀ q:Nat × Nat,q=(n+a,c)→q∈r∨(n≤q.1∧q.1<n+5):=fun a c h q e=>by rw [e];right;dsimp only;omega
 have c1:=hrec _ (n+5) b ((n+2,0)::(n,0)::(n,3)::r) (hin _ fun q hq=>by
  simp only [List.mem_cons] at hq
  rcases hq with h | h | h | h
  ·exact hone 2 _ (by omega) _ h
  ·exact hone 0 _ (by omega) _ h
  ·exact hone 0 _ (by omega) _ h
  ·exact .inl h) x j p j' hx hj hfx
 have c2:=hrec _ (n+5) b ((n+2,0)::(n+1,3)::(n,0)::(n,3)::r) (hin _ fun q hq=>by
  simp only [List.mem_cons] at hq
  rcases hq with h | h | h | h | h
  ·exact hone 2 _ (by omega) _ h
  ·exact hone 1 _ (by omega) _ h
  ·exact hone 0 _ (by omega) _ h
  ·exact hone 0 _ (by omega) _ h
  ·exact .inl h) x j p j' hx hj hfx
 have c3:=hrec _ (n+5) b ((n+1,3)::(n+2,0)::(n,0)::(n,3)::r) (hin _ fun q hq=>by
  simp only [List.mem_cons] at hq
  rcases hq with h | h | h | h | h
  ·exact hone 1 _ (by omega) _ h
  ·exact hone 2 _ (by omega) _ h
  ·exact hone 0 _ (by omega) _ h
  ·exact hone 0 _ (by omega) _ h
  ·exact .inl h) x j p j' hx hj hfx
 have hsc:(zas all).drop k=.flat (.string (S x))::(zas all).drop (k+1):=by simp only [zas,← List.map_drop,hd,List.map_cons]
 have hr1:=H.a_get;have hr2:=H.a_0;have hr3:=H.a_1;have hr4:=H.a_set;have hr5:=H.a_s0;have hr6:=H.a_s1;have hr7:=H.a_len;have hr8:=H.a_take;have hr9:=H.a_take1;have hrl:=H.len;have hlow:=H.low;have hd0:=H.d_0;have hd1:=H.d_1;have hu0:=H.u_0;have hu1:=H.u_1;have hl0:=H.l_0;have hl1:=H.l_1;have hdl1:=H.dl_1;have hdl0:=H.dl_0
 have hlb:=H.a_low;have hbn:=H.lt;have hbn1:∀ i,decide (b<n+i)=true:=fun i=>decide_eq_true (by omega)
 have hpl:(zaw ps).length=k * 4:=by rw [zei,hps]
 have hpu:=zhu ps
 have hpw:=fun n=>zax (n:=n) ps
 have hap:=zk8 ps [p]
 obtain ⟨F',ty',tx',ps'⟩:=p
 have hl2:=fun n=>zae (n:=n) F'
 have hl3:=fun n=>zax (n:=n) ps'
 simp only [zaw,LP.cells,List.append_nil] at hap
 simp only [LP.cells] at c1 c2 c3
 have hpl':(ps++[LP.mk F' ty' tx' ps']).length=k+1:=by rw [List.length_append,hps];rfl
 simp only [bx5,zad,zcz,hps,hpl',zcw,Int.natCast_add,Int.natCast_one] at c1 c2 c3 ⊢
 clear hrec hd hone hin H hlw
 rw [← hap]
 by_cases hk0:k=0
 ·subst hk0
  obtain rfl:ps=[]:=qz hps
  have hk1:¬ (0+1=0):=by omega
  simp only [zaw,List.nil_append] at c1 c2 c3 ⊢
  simp only [ocL,if_true,hk1,if_false]
  clear hap hpl hpu hpw hpl'
  simp (maxSteps:=999999) (disch:=first | assumption | omega) only [go_sem,simprocAttr,au,zb9,c1,c2,c3,hsc,hlo,zkl,zm7,zm8,zm9,hl2,hl3,hr1,hr2,hr3,hr4,hr5,hr6,hr7,hr8,hr9,hrl,hlow,hd0,hd1,hu0,hu1,hl0,hl1,hdl0,hdl1,hlb,hbn1,za0,zam,zbf]
 ·have hk1:¬ (k+1=0):=by omega
  simp only [ocL,hk0,hk1,if_false]
  have hk0':(0<k):=by omega
  simp (maxSteps:=999999) (disch:=first | assumption | omega) only [go_sem,simprocAttr,au,zb9,c1,c2,c3,hsc,hlo,zkl,zm7,zm8,zm9,hpl,hpu,hpw,hl2,hl3,hr1,hr2,hr3,hr4,hr5,hr6,hr7,hr8,hr9,hrl,hlow,hd0,hd1,hu0,hu1,hl0,hl1,hdl0,hdl1,hlb,hbn1,za0,zam,zbf]
theorem z63 {f:Str→Nat→Except Nat (LP × Nat)} (hf:∀ s n p m,f s n=.ok (p,m)→n≤64→m≤64) {B:Nat→zao} {n b:Nat} {r:List (Nat × Nat)} (H:BxAt B n b RT rdr r) {deep:Nat} (hdp:deep<4) (hrec:Rec lib f (deep+1)) (kf:Nat) (fc:List PV) (hlo:∀ n,lows n fc=true) (ty s mk:Str) {all:List Str} (hx:∀ x∈all,x.length≤10000) (hal:all.length≤64) {j m:Nat} {ps:List LP} (hj:j≤64) (h:zf7 f all j=.ok (ps,m)) :
 zb3 (evC (evW code lib) big zan) [0,2,6,10,91,92,93] (n+5) big ⟨[(0,.ptr b 0),(2,.flat (.int .i64 (deep:Nat))),(6,.ptr n 0),(10,.ptr (n+1) 0),(91,.slc all.length (zas all)),(92,.flat (.int .i64 (all.length:Nat))),(93,.flat (.int .i64 0))],ocL n r 0,[],B j++bx5 kf fc ty s mk [] all⟩
  = some (.exit 2,⟨[(6,.ptr n 0),(10,.ptr (n+1) 0)],ocL n r all.length,[],B m++bx5 kf fc ty s mk ps all⟩):=by
 have hlb:∀ (j:Nat) (ps:List LP),zcf (n+5) (B j++bx5 kf fc ty s mk ps all)=true:=by
  intro j ps
  have h1:=hlo (n+5)
  have h2:=zam (n:=n+5) all
  have h3:=zax (n:=n+5) ps
  rw [H.a_low]
  simp only [bx5,zad,zcz,zcf,lows,PV.low,h1,h2,h3,Bool.and_self]
 have hloop:=zmb (body:=evC (evW code lib) big zan) (live:=[0,2,6,10,91,92,93]) (nb:=n+5) (fun q:Nat × Nat × List LP=>(⟨[(0,.ptr b 0),(2,.flat (.int .i64 (deep:Nat))),(6,.ptr n 0),(10,.ptr (n+1) 0),(91,.slc all.length (zas all)),(92,.flat (.int .i64 (all.length:Nat))),(93,.flat (.int .i64 (q.1:Nat)))],ocL n r q.1,[],B q.2.1++bx5 kf fc ty s mk q.2.2 all⟩:St))
  (fun q=>q.1≤all.length∧q.2.1≤64∧q.2.2.length=q.1∧∃ qs,zf7 f (all.drop q.1) q.2.1=.ok (qs,m)∧q.2.2++qs=ps) (fun q=>all.length - q.1)
  (fun q=>(.exit 2,⟨[(6,.ptr n 0),(10,.ptr (n+1) 0)],ocL n r all.length,[],B m++bx5 kf fc ty s mk ps all⟩)) (fun q hq=>?_) (n:=big) (a:=(0,j,[])) ⟨Nat.zero_le _,hj,rfl,ps,h,rfl⟩ (by unfold big;dsimp only;omega)
 ·simp only [n0] at hloop
  exact hloop
 ·obtain ⟨k,j,qs⟩:=q
  obtain ⟨k1,k2,k3,rs,k4,k5⟩:=hq
  dsimp only at k1 k2 k3 k4 k5 ⊢
  by_cases hk:k<all.length
  ·right
   have hc:all[k]? =some all[k]:=qe hk
   have hd:all.drop k=all[k]::all.drop (k+1):=List.drop_eq_getElem_cons hk
   rw [hd] at k4
   unfold zf7 at k4
   split at k4
   ·cases k4
   ·rename_i p j' hfx
    split at k4
    ·cases k4
    ·rename_i rs' m' hl
     cases k4
     refine ⟨_,(k+1,j',qs++[p]),zwe H hdp hrec kf fc hlo ty s mk hk hc hd (hx _ (List.getElem_mem hk)) hal k3 k2 hfx,?_,⟨hk,hf _ _ _ _ hfx k2,by dsimp only;rw [List.length_append,k3];rfl,rs',hl,by rw [List.append_assoc];exact k5⟩,by dsimp only;omega,rfl⟩
     have hl2:(B j'++bx5 kf fc ty s mk (qs++[p]) all).length=n+5:=by rw [H.a_len];rfl
     have hlb2:=hlb j' (qs++[p])
     have hl0:=H.l_0;have hl1:=H.l_1;have hu0:=H.u_0;have hu1:=H.u_1
     simp only [ocL,Nat.succ_ne_zero,if_false]
     clear H hrec hlb hl
     generalize B j'++bx5 kf fc ty s mk (qs++[p]) all=X at *
     simp (maxSteps:=999999) (disch:=first | assumption | omega) only [go_sem,simprocAttr,au,hl2,zbx hl2,hl0,hl1,hu0,hu1,hlb2]
  ·left
   obtain rfl:k=all.length:=by omega
   rw [List.drop_length] at k4
   cases k4
   simp only [List.append_nil] at k5
   subst k5
   refine ⟨_,_,?_,(by simp),rfl⟩
   have hl2:(B j++bx5 kf fc ty s mk qs all).length=n+5:=by rw [H.a_len];rfl
   have hlb2:=hlb j qs
   have hl0:=H.l_0;have hl1:=H.l_1;have hu0:=H.u_0;have hu1:=H.u_1
   clear H hrec hlb
   generalize B j++bx5 kf fc ty s mk qs all=X at *
   unfold ocL
   split
   ·simp (maxSteps:=999999) (disch:=first | assumption | omega) only [go_sem,simprocAttr,au,zb9,hl2,zbx hl2,hl0,hl1,hu0,hu1,hlb2,zam]
   ·simp (maxSteps:=999999) (disch:=first | assumption | omega) only [go_sem,simprocAttr,au,zb9,hl2,zbx hl2,hl0,hl1,hu0,hu1,hlb2,zam]
theorem zwf (rest line:Str) (k:Nat) (hk:rest.length≤k):∀ (n:Nat) (q:List Str × Nat × Nat) (out:List Str),runS (boT rest line) none n q=some out→(∀ x∈q.1,x.length≤k)→∀ x∈out,x.length≤k
 | 0,q,out,h,hq=>by cases h
 | n+1,q,out,h,hq=>by
   have hsl:∀ a b:Nat,((rest.take a).drop b).length≤k:=fun a b=>by simp only [List.length_drop,List.length_take];omega
   rw [runS] at h
   split at h
   ·rename_i q' hs
    refine zwf rest line k hk n q' out h ?_
    unfold boT at hs
    split at hs
    ·cases hs
    ·dsimp only at hs
     split at hs
     ·split at hs<;>cases hs
     ·split at hs
      ·cases hs
       intro x hx
       rcases List.mem_append.1 hx with hx | hx
       ·exact hq x hx
       ·simp at hx;subst hx;exact hsl _ _
      ·cases hs;exact hq
   ·rename_i r' hs
    subst h
    unfold boT at hs
    split at hs
    ·cases hs
    ·dsimp only at hs
     split at hs
     ·split at hs
      ·cases hs
       intro x hx
       rcases List.mem_append.1 hx with hx | hx
       ·exact hq x hx
       ·simp at hx;subst hx;exact hsl _ _
      ·cases hs
     ·split at hs<;>cases hs
theorem zgg {s mk:Str} {all:List Str} (h:zch s mk=some all) (hs:s.length≤10000):∀ x∈all,x.length≤10000:=by
 unfold zch at h
 split at h
 ·rename_i hp
  have hp:=zmc hp
  simp only [List.length_append,List.length_cons,List.length_nil] at hp
  refine zwf _ _ 10000 ?_ _ _ _ h (by simp)
  simp only [List.length_drop,List.length_append,List.length_cons,List.length_nil];omega
 ·cases h
theorem ycv (L:LibL lib) {f:Str→Nat→Except Nat (LP × Nat)} (hf:∀ s n p m,f s n=.ok (p,m)→n≤64→m≤64) {B:Nat→zao} {n b:Nat} {r:List (Nat × Nat)} (H:BxAt B n b RT rdr r) {deep j:Nat} (hdp:deep<4) (hrec:Rec lib f (deep+1)) {s:Str} (hs:s.length≤10000) {F:List Fld} {at_:Nat} (h1:zba s=.ok F at_) {ty mk:Str} (h2:zds F=.ok (ty,mk)) (h3:za1.isPrefixOf ty=true) (h4:codP F=zbn) (h5:zht mk=true) {all:List Str} (h6:zch (s.drop at_) mk=some all) (h7:j+all.length≤64) {ps:List LP} {m:Nat} (h8:zf7 f all (j+all.length)=.ok (ps,m)) :
 evW code lib 39 [.ptr b 0,.flat (.string (S s)),.flat (.int .i64 (deep:Nat))] (B j) (cl r)=some ([.agg (LP.mk F ty [] ps).cells],false,B m,cl r):=by
 have hbv:bound=4294967296:=rfl
 obtain ⟨k1,k2,k3⟩:=zaz h1 (by omega)
 have f1:=zlo L.spl s hs
 rw [h1] at f1
 dsimp only at f1
 have hgl:(getU sCt F).1.length≤10000:=zau F _ (by simp) fun f hf=>by have:=(k3 f hf).2;omega
 have hgl2:(getU sCte F).1.length≤10000:=zau F _ (by simp) fun f hf=>by have:=(k3 f hf).2;omega
 have f2:=zkk L.alike L.fold L.par L.cut L.idx F ty mk k1 hgl (fun m l hp=>by have:=zaq hp hgl;exact ⟨this.1,by omega⟩) h2
 have f3:=zjq L.alike F sCte k1 (by decide)
 have hm0:=zbj (lib:=lib) 0
 have hm7:=zbj (lib:=lib) 7
 have hm8:=zbj (lib:=lib) 8
 have hm5:=zbj (lib:=lib) 5
 rw [n0] at hm0
 rw [show ((7:Nat):Int)=7 from rfl] at hm7
 rw [show ((8:Nat):Int)=8 from rfl] at hm8
 rw [show ((5:Nat):Int)=5 from rfl] at hm5
 have hfl:=zje L.fold (if (getU sCte F).2=0 then zbn else (getU sCte F).1) (by split<;>first | decide | omega)
 have h4':=h4
 unfold codP at h4'
 rw [h4'] at hfl
 have htyl:ty.length≤10000:=by
  unfold zds at h2
  split at h2
  ·split at h2
   ·cases h2;decide
   ·split at h2
    ·cases h2
    ·cases h2
    ·rename_i m l hp
     split at h2
     ·cases h2
      have:=(zaq hp hgl).2
      simp only [zab,List.length_map];omega
     ·cases h2
  ·cases h2
 have f4:=zir L.pre ty za1 (by omega) (by decide)
 rw [h3] at f4
 have hmk:mk.length≤70:=by
  unfold zht at h5
  simp only [Bool.and_eq_true,decide_eq_true_eq] at h5
  exact h5.2.2
 have f6:=zio L.idx mk (by omega)
 rw [h5] at f6
 have hbl:(s.drop at_).length≤10000:=by rw [List.length_drop];omega
 have hlp:=zra _ _ _ _ h8
 have hal:all.length≤64:=by omega
 unfold za1 at f4
 unfold sCte at f3 hfl
 unfold zbn at hfl
 have hnp:=zak F
 have hlo:=fun n=>zae (n:=n) F
 have tk:(s.take s.length).drop at_=s.drop at_:=by rw [List.take_length]
 obtain ⟨u,hu'⟩:∃ v,getU [99,111,110,116,101,110,116,45,116,114,97,110,115,102,101,114,45,101,110,99,111,100,105,110,103] F=v:=⟨_,rfl⟩
 rw [hu'] at f3 hfl
 obtain ⟨u,k⟩:=u
 dsimp only at f3 hfl
 have hFl:=k1.1
 simp only [LP.cells]
 generalize zac F=fc at *
 have hoc:∀ q∈((n+2,0)::(n+1,3)::(n,0)::(n,3)::r),q.1<n+6:=by
  intro q hq
  simp only [List.mem_cons] at hq
  rcases hq with rfl | rfl | rfl | rfl | hq
  ·dsimp only;omega
  ·dsimp only;omega
  ·dsimp only;omega
  ·dsimp only;omega
  ·have:=H.hlt q hq;omega
 have hrun:=zk7 (lib:=lib) L.ind L.cutp L.pre (s.drop at_) mk all (by omega) (by omega) h6 (fun out=>B j++bxL n F.length fc ty (s.drop at_) mk [] out) _ (n+5) (n+4) (n+3) (n+6) (fun a=>by rw [H.a_1];rfl) (fun a=>by rw [H.a_1];rfl) (fun a=>by rw [H.a_len];rfl) hoc (fun a x ha=>by simp only [zcw];exact zis H j F.length fc ty _ mk x a (by omega))
 simp only [zcw] at hrun
 have hnew:=zd2 (lib:=lib) (s.drop at_) mk (B j++[(48,zad),(48,zcz F.length fc ty []),(39,[.slc 0 []])]) ((n+2,0)::(n+1,3)::(n,0)::(n,3)::r) (fun q hq=>by
  rw [H.a_len]
  simp only [List.mem_cons] at hq
  rcases hq with rfl | rfl | rfl | rfl | hq
  ·dsimp only [List.length_cons,List.length_nil];omega
  ·dsimp only [List.length_cons,List.length_nil];omega
  ·dsimp only [List.length_cons,List.length_nil];omega
  ·dsimp only [List.length_cons,List.length_nil];omega
  ·have:=H.hlt q hq;dsimp only [List.length_cons,List.length_nil];omega)
 simp only [zcw,H.a_len,List.length_cons,List.length_nil,Nat.zero_add,Nat.reduceAdd,Nat.add_assoc,List.append_assoc,List.cons_append,List.nil_append] at hnew
 have hnew0:=zd2 (lib:=lib) (s.drop at_) mk [] [] (by simp)
 simp only [zql,List.length_nil,List.nil_append,Nat.zero_add] at hnew0
 have hr1:=H.a_get;have hr2:=H.a_0;have hr3:=H.a_1;have hr4:=H.a_set;have hr5:=H.a_s0;have hr6:=H.a_s1;have hr7:=H.a_len;have hr8:=H.a_take;have hr9:=H.a_take1;have hrl:=H.len;have hlow:=H.low;have hd0:=H.d_0;have hd1:=H.d_1;have hu0:=H.u_0;have hu1:=H.u_1;have hl0:=H.l_0;have hl1:=H.l_1;have hdl1:=H.dl_1;have hdl0:=H.dl_0
 have hset:∀ ys,(B j++ys).set b (RT,[PV.flat (.int .i64 ((j:Int)+(all.length:Int)))])=B (j+all.length)++ys:=fun ys=>by have:=H.a_set (j+all.length) j ys;simp only [rdr,Int.natCast_add] at this;exact this
 have hloop:=z63 hf H hdp hrec F.length fc hlo ty (s.drop at_) mk (zgg h6 hbl) (by omega) h7 h8
 obtain ⟨j1,hj1⟩:∃ q,j+all.length=q:=⟨_,rfl⟩
 rw [hj1] at hset hloop
 simp only [rdr] at hr1 hr4
 simp only [bx5,zad,zcz,zaw,List.length_nil] at hloop
 have hoc0:ocL n r 0=.cell (n+2) 0::.cell (n+1) 3::.cell n 0::.cell n 3::cl r:=rfl
 rw [hoc0] at hloop
 have hlb:=H.a_low;have hlq:=fun n=>zax (n:=n) ps;have hbn:=H.lt;have hbn1:∀ i,decide (b<n+i)=true:=fun i=>decide_eq_true (by omega)
 have hdb:=H.d_b
 clear k1 k3 h1 h2 h3 h4 h4' h5 h6 L H
 unfold bxL zad zcz at hrun
 unfold zad zcz at hnew
 have s0:zas []=[]:=rfl
 have l0:zaw []=[]:=rfl
 simp only [l0,List.length_nil] at hnew
 simp only [l0,s0,List.length_nil] at hrun
 refine zbw zaf (Nat.le_of_ble_eq_true rfl) ?_
 have hE:ocL n r all.length=.cell (n+2) 0::.cell (n+1) 3::.cell n 0::.cell n 3::cl r∨ocL n r all.length=.cell (n+1) 3::.cell (n+2) 0::.cell n 0::.cell n 3::cl r:=by
  unfold ocL
  split
  ·exact .inl rfl
  ·exact .inr rfl
 by_cases hk:k=0
 ·subst hk
  simp only [if_true] at hfl
  rcases hE with hE | hE<;>rw [hE] at hloop
  ·simp (maxSteps:=999999) (disch:=first | assumption | omega) only [go_sem,simprocAttr,au,f1,f2,f3,f4,f6,hfl,hm0,hm7,hm8,hm5,hnew,hnew0,hrun,hloop,hnp,hlo,tk,hr1,hr2,hr3,hr4,hr5,hr6,hr7,hr8,hr9,hrl,hlow,hd0,hd1,hu0,hu1,hl0,hl1,hdl0,hdl1,hlb,hbn1,hset,hlq,hdb,za0,zam,zbf]
  ·simp (maxSteps:=999999) (disch:=first | assumption | omega) only [go_sem,simprocAttr,au,f1,f2,f3,f4,f6,hfl,hm0,hm7,hm8,hm5,hnew,hnew0,hrun,hloop,hnp,hlo,tk,hr1,hr2,hr3,hr4,hr5,hr6,hr7,hr8,hr9,hrl,hlow,hd0,hd1,hu0,hu1,hl0,hl1,hdl0,hdl1,hlb,hbn1,hset,hlq,hdb,za0,zam,zbf]
 ·have hk':((k:Int)=0)=False:=by apply eq_false;omega
  simp only [hk,if_false] at hfl
  rcases hE with hE | hE<;>rw [hE] at hloop
  ·simp (maxSteps:=999999) (disch:=first | assumption | omega) only [go_sem,simprocAttr,au,f1,f2,f3,f4,f6,hfl,hk',hm0,hm7,hm8,hm5,hnew,hnew0,hrun,hloop,hnp,hlo,tk,hr1,hr2,hr3,hr4,hr5,hr6,hr7,hr8,hr9,hrl,hlow,hd0,hd1,hu0,hu1,hl0,hl1,hdl0,hdl1,hlb,hbn1,hset,hlq,hdb,za0,zam,zbf]
  ·simp (maxSteps:=999999) (disch:=first | assumption | omega) only [go_sem,simprocAttr,au,f1,f2,f3,f4,f6,hfl,hk',hm0,hm7,hm8,hm5,hnew,hnew0,hrun,hloop,hnp,hlo,tk,hr1,hr2,hr3,hr4,hr5,hr6,hr7,hr8,hr9,hrl,hlow,hd0,hd1,hu0,hu1,hl0,hl1,hdl0,hdl1,hlb,hbn1,hset,hlq,hdb,za0,zam,zbf]
theorem zsy (L:LibL lib) {rec:Option (Str→Nat→Except Nat (LP × Nat))} {deep:Nat} (hr:∀ f,rec=some f→deep<4∧Rec lib f (deep+1)∧∀ s n p m,f s n=.ok (p,m)→n≤64→m≤64):Rec lib (zft rec) deep:=by
 intro B n b r H s j p m hs hj h
 unfold zft at h
 split at h
 ·cases h
 ·cases h
 rename_i F at_ h1
 split at h
 ·cases h
 rename_i ty mk h2
 split at h
 ·rename_i h3
  split at h
  ·cases h
  ·rename_i t h4
   cases h
   exact yi5 L H hs h1 h2 h3 h4
 ·rename_i h3
  have h3:za1.isPrefixOf ty=true:=by simpa using h3
  split at h
  ·rename_i h45
   split at h
   ·cases h
   rename_i all h6
   split at h
   ·cases h
   rename_i f
   split at h
   ·rename_i h7
    split at h
    ·cases h
    ·rename_i ps m' h8
     cases h
     obtain ⟨r1,r2,r3⟩:=hr f rfl
     exact ycv L r3 H r1 r2 hs h1 h2 h3 h45.1 h45.2 h6 h7 h8
   ·cases h
  ·cases h
theorem zrb (L:LibL lib):∀ (d deep:Nat),d+deep=4→Rec lib (zed d) deep
 | 0,deep,h=>zsy L fun f e=>by cases e
 | d+1,deep,h=>zsy L fun f e=>by
   cases e
   exact ⟨by omega,zrb L d (deep+1) (by omega),zk9 d⟩
end Nun
end
section
namespace Nun
open Go Go.RowKit Go.Proofs Go.Proofs.YtmpiobfdchlikaaGreatDoor
def both (a b:Nun.Callee):Nun.Callee:=fun f args bx oc=>match a f args bx oc with
 | some r=>some r
 | none=>b f args bx oc
theorem zeo {P:Program} {Γ:Glob} {a b:Nun.Callee} (ha:zbv P Γ a) (hb:zbv P Γ b):zbv P Γ (both a b):=fun f args bx oc vs' os bx' oc' h=>by
 unfold both at h
 split at h
 ·rename_i r e;rw [h] at e;exact ha f args bx oc vs' os bx' oc' e
 ·exact hb f args bx oc vs' os bx' oc' h
theorem zat {a b:Nun.Callee} {f:FuncId} {args:List PV} {bx:zao} {oc:List Nun.Loc} (h:a f args bx oc=none):both a b f args bx oc=b f args bx oc:=by unfold both;rw [h]
theorem zg3 {a b:Nun.Callee} {f:FuncId} {args:List PV} {bx:zao} {oc:List Nun.Loc} {r:Nun.Ans} (h:a f args bx oc=some r):both a b f args bx oc=some r:=by unfold both;rw [h]
structure TupRes where
 pre:List Value
 row:Option (List Value × Nat × Nat × TypeId)
 ex:List Value
def TupRes.vs (R:TupRes) (v:Value):List Value:=match R.row with
 | none=>R.pre++R.ex
 | some _=>R.pre++v::R.ex
def TupRes.pvs (R:TupRes):List PV:=match R.row with
 | none=>(R.pre++R.ex).map .flat
 | some (c,n,_,_)=>R.pre.map .flat++.slc n (c.map .flat)::R.ex.map .flat
def tupV:List Value→Value
 | [v]=>v
 | l=>.tuple l.toArray
def zjj (P:Program) (Γ:Glob) (f:FuncId) (spec:List Value→Option TupRes):Prop:=zgq P f=true∧∀ vs R,spec vs=some R→((∀ v∈R.pre++R.ex,zcm v=true)∧∀ c n z ty,R.row=some (c,n,z,ty)→∀ v∈c,zcm v=true∧v.oneCell'=true) ∧
 ∀ w,Γ.G w→Calls P f vs.toArray w fun e w'=>∃ v,e=.returned (tupV (R.vs v))∧(∀ c n z ty,R.row=some (c,n,z,ty)→w'.ownsRow w.heap.size ty z v n c)∧Below w.heap.size w w'
def zee (k:FuncId) (spec:List Value→Option TupRes):Nun.Callee:=fun f args bx oc=>match bx,oc with
 | [],[]=>if f=k then ((z1a args).bind spec).map fun R=>(R.pvs,false,[],[]) else none
 | _,_=>none
theorem zgh {k:FuncId} {spec:List Value→Option TupRes} {args:List PV} {vs:List Value} {R:TupRes} (h1:z1a args=some vs) (h2:spec vs=some R):zee k spec k args [] []=some (R.pvs,false,[],[]):=by
 unfold zee
 dsimp only
 rw [if_pos rfl,h1,Option.bind_some,h2];rfl
theorem zav {k f:FuncId} {spec:List Value→Option TupRes} {args:List PV} {bx:zao} {oc:List Nun.Loc} (h:f≠k):zee k spec f args bx oc=none:=by
 unfold zee
 split
 ·rw [if_neg h]
 ·rfl
theorem zit {w:World} {Fr:Nat→Nat} {β:List Nat}:∀ {l:List Value},(∀ v∈l,zcm v=true)→Rds w Fr β (l.map .flat) l
 | [],_=>by simp [Rds]
 | v::l,h=>by
   simp only [List.map_cons,Rds]
   exact ⟨v,l,rfl,by unfold Rd;exact ⟨rfl,h v List.mem_cons_self⟩,zit fun x hx=>h x (List.mem_cons_of_mem _ hx)⟩
theorem zsz {w:World} {Fr:Nat→Nat} {β:List Nat}:∀ {a b:List PV} {u v:List Value},Rds w Fr β a u→Rds w Fr β b v→Rds w Fr β (a++b) (u++v)
 | [],b,u,v,h,k=>by simp only [Rds] at h;subst h;exact k
 | p::a,b,u,v,h,k=>by
   simp only [Rds] at h
   obtain ⟨x,r,rfl,h1,h2⟩:=h
   simp only [List.cons_append,Rds]
   exact ⟨x,_,rfl,h1,zsz h2 k⟩
theorem z64 {w:World} {Fr:Nat→Nat} {β:List Nat} {ps:List PV} {vs:List Value} (h:Rds w Fr β ps vs):Rd w Fr β (zd7 ps) (tupV vs):=by
 match ps,h with
 | [],h =>
   simp only [Rds] at h;subst h
   simp only [zd7,tupV,Rd,Rds];exact ⟨[],rfl,rfl⟩
 | [p],h =>
   simp only [Rds] at h
   obtain ⟨x,r,rfl,h1,rfl⟩:=h
   exact h1
 | p::q::l,h =>
   have h0:=h
   simp only [Rds] at h
   obtain ⟨x,r,rfl,h1,y,r',rfl,h2⟩:=h
   show Rd w Fr β (.tup (p::q::l)) (.tuple (x::y::r').toArray)
   unfold Rd
   exact ⟨_,rfl,h0⟩
theorem zcd {P:Program} {Γ:Glob} {k:FuncId} {spec:List Value→Option TupRes} (hk:k≠yldF) (h:zjj P Γ k spec):zbv P Γ (zee k spec):=by
 intro f args bx oc vs' os bx' oc' he
 unfold zee at he
 split at he
 case h_2=>cases he
 split at he
 case isFalse=>cases he
 rename_i hf
 subst hf
 obtain ⟨R,hR,he⟩:=qm he
 cases he
 obtain ⟨us,hus,hsp⟩:=qb hR
 obtain ⟨h1,h2⟩:=h
 obtain ⟨⟨hfl,hc⟩,h4⟩:=h2 us R hsp
 intro w Fr β vs hp
 refine enters_of h1 hk ?_
 obtain rfl:=zqa hus hp.args
 refine (h4 w hp.g).mono ?_
 rintro e w' ⟨v,rfl,hown,hb⟩
 cases hrow:R.row with
 | none =>
   obtain ⟨Rl,hl⟩:=hp.rel.grow hb (Fr':=Fr) fun _ _=>rfl
   refine ⟨_,Fr,β,rfl,z64 ?_,Rl,hl,(fun L h=>by cases h),fun h=>by cases h⟩
   unfold TupRes.pvs TupRes.vs
   rw [hrow]
   exact zit hfl
 | some q =>
   obtain ⟨c,n,z,ty⟩:=q
   have hown:=hown c n z ty hrow
   have hc:=hc c n z ty hrow
   obtain ⟨Fr',hFr'⟩:∃ F:Nat→Nat,F=fun g=>if v.ownBlock=some g then c.length else Fr g:=⟨_,rfl⟩
   have hold:∀ g,g<w.heap.size→Fr' g=Fr g:=fun g hg=>by
    rw [hFr'];dsimp only
    rw [if_neg]
    intro e
    have:=(hown.lt g e).1
    omega
   obtain ⟨Rl,hl⟩:=hp.rel.grow hb (Fr':=Fr') hold
   have hrd:Rd w' Fr' β (.slc n (c.map .flat)) v:=by
    simp only [Rd]
    have hlen:=hown.1
    rcases hown.2 with ⟨rfl,h0⟩ | ⟨g,cap,cur,rfl,hg,hcur,hnc,_⟩
    ·refine ⟨none,0,by rw [h0],by omega,.inl ⟨?_,h0⟩⟩
     rw [h0,Nat.zero_mul] at hlen
     rw [qz hlen];rfl
    ·refine ⟨some ⟨g,0,none⟩,cap,rfl,hnc,.inr ⟨g,0,c,rfl,fun j u hj=>?_,zit fun x hx=>(hc x hx).1,fun x hx=>(hc x hx).2⟩⟩
     have hjl:=(qg hj).1
     refine ⟨?_,?_⟩
     ·rw [hFr'];dsimp only
      rw [if_pos (show (Value.slice (some ⟨g,0,none⟩) n cap).ownBlock=some g from rfl)];omega
     ·rw [Nat.zero_add,hown.cellAt j (by rw [← hlen];exact hjl),hj]
   refine ⟨_,Fr',β,rfl,z64 ?_,Rl,hl,(fun L h=>by cases h),fun h=>by cases h⟩
   unfold TupRes.pvs TupRes.vs
   rw [hrow]
   refine zsz (zit fun x hx=>hfl x (by simp [hx])) ?_
   simp only [Rds]
   exact ⟨v,_,rfl,hrd,zit fun x hx=>hfl x (by simp [hx])⟩
end Nun
end
section
set_option synthInstance.maxSize 4000
namespace Nun
open Go Go.RowKit
theorem zpi (p:UInt8→Bool) (s:ByteArray) (k:Nat) (h:k<s.size):(s.data.toList.take (k+1)).all p=((s.data.toList.take k).all p && p s[k]):=by
 have h':k<s.data.toList.length:=h
 rw [List.take_succ_eq_append_getElem h',List.all_append];simp;rfl
theorem zuh (p:UInt8→Bool) (s:ByteArray) (k:Nat) (h:k<s.size) (hb:p s[k]=false):s.data.toList.all p=false:=by
 rw [List.all_eq_false]
 exact ⟨s[k],by have:s.data.toList[k]'h=s[k]:=rfl
                rw [← this];exact List.getElem_mem _,by simp [hb]⟩
theorem zui (p:UInt8→Bool) (s:ByteArray):(s.data.toList.take s.size).all p=s.data.toList.all p:=by
 rw [List.take_of_length_le (by show s.size≤s.size;omega)]
end Nun
namespace Go.Proofs.YtmpiobfdchlikaaGreatDoor
open Go.RowKit Nun
theorem z65 (s:ByteArray) (w:World) (hs:s.size≤maxLen):Calls Tryz.prog 122 #[.string s] w (Same (.bool (s.data.toList.all zd6)) w):=by
 unfold maxLen at hs
 obtain ⟨V,hV⟩:∃ V,s.data.toList.all zd6=V:=⟨_,rfl⟩
 rw [hV]
 have HV:=Lib.hid hV;clear hV
 go_enter Tryz.func122,Tryz.ntmps122
 go_wp2
 go_loop [3,4,7] (fun _ _ i=>∃ k:Nat,k≤s.size∧i=.int .i64 k∧Hid ((s.data.toList.take k).all zd6=true)) (fun _ _ i=>s.size - (intOf i).toNat)
 case atStart=>exact ⟨0,Nat.zero_le _,rfl,Lib.hid rfl⟩
 case round =>
  obtain ⟨k,hk,rfl,hall⟩:=hrel
  by_cases hlt:k<s.size
  ·have hst:=zpi zd6 s k hlt
   have hbad:=zuh zd6 s k hlt
   rw [HV.out] at hbad
   generalize hc:s[k]=c at *
   have HS:=Lib.hid hst;have HB:=Lib.hid hbad;clear hst hbad
   go_wp2
   all_goals (try (go_ret;exact ⟨r1 (vb (HB.out (by (clear hc HS HB hall);(go_light;revert c;decide +kernel))).symm),rfl⟩))
   all_goals
    have hstep:zd6 c=true:=by (clear hc HS HB hall);(go_light;revert c;decide +kernel)
    go_round
    case rel=>exact ⟨k+1,by omega,by go_num,Lib.hid (by rw [HS.out,hall.out,hstep];rfl)⟩
    case measure=>simp [intOf];omega
  ·obtain rfl:k=s.size:=by omega
   have hend:=hall.out
   rw [zui,HV.out] at hend
   subst hend
   go_wp2
   go_ret
   exact ⟨rfl,rfl⟩
theorem z66 (s:ByteArray) (w:World) (hs:s.size≤maxLen):Calls Tryz.prog 112 #[.string s] w (Same (.bool (s.data.toList.all zd6)) w):=by
 unfold maxLen at hs
 obtain ⟨V,hV⟩:∃ V,s.data.toList.all zd6=V:=⟨_,rfl⟩
 rw [hV]
 have HV:=Lib.hid hV;clear hV
 go_enter Tryz.func112,Tryz.ntmps112
 go_wp2
 go_loop [3] (fun i=>∃ k:Nat,k≤s.size∧i=.int .i64 k∧Hid ((s.data.toList.take k).all zd6=true)) (fun i=>s.size - (intOf i).toNat)
 case atStart=>exact ⟨0,Nat.zero_le _,rfl,Lib.hid rfl⟩
 case round =>
  obtain ⟨k,hk,rfl,hall⟩:=hrel
  by_cases hlt:k<s.size
  ·have hst:=zpi zd6 s k hlt
   have hbad:=zuh zd6 s k hlt
   rw [HV.out] at hbad
   generalize hc:s[k]=c at *
   have HS:=Lib.hid hst;have HB:=Lib.hid hbad;clear hst hbad
   go_wp2
   all_goals (try (go_ret;exact ⟨r1 (vb (HB.out (by (clear hc HS HB hall);(go_light;revert c;decide +kernel))).symm),rfl⟩))
   all_goals
    have hstep:zd6 c=true:=by (clear hc HS HB hall);(go_light;revert c;decide +kernel)
    go_round
    case rel=>exact ⟨k+1,by omega,by go_num,Lib.hid (by rw [HS.out,hall.out,hstep];rfl)⟩
    case measure=>simp [intOf];omega
  ·obtain rfl:k=s.size:=by omega
   have hend:=hall.out
   rw [zui,HV.out] at hend
   subst hend
   go_wp2
   go_ret
   exact ⟨rfl,rfl⟩
theorem zwg (s:ByteArray) (w:World) (hs:s.size≤maxLen):Calls Tryz.prog 123 #[.string s] w (Same (.bool (zgv s.data.toList)) w):=by
 unfold maxLen at hs
 obtain ⟨V,hV⟩:∃ V,zgv s.data.toList=V:=⟨_,rfl⟩
 rw [hV]
 have hbadV:s.data.toList.all zoy=false→V=false:=by intro h;rw [← hV,zgv,h,Bool.and_false]
 have hendV:s.data.toList.all zoy=true→V=(!s.data.toList.isEmpty && decide (s.data.toList.length≤32)):=by intro h;rw [← hV,zgv,h,Bool.and_true]
 have HV:=Lib.hid hbadV;have HE:=Lib.hid hendV;clear hV hbadV hendV
 go_enter Tryz.func123,Tryz.ntmps123
 go_wp2
 go_loop [3,4,7] (fun _ _ i=>∃ k:Nat,k≤s.size∧i=.int .i64 k∧Hid ((s.data.toList.take k).all zoy=true)) (fun _ _ i=>s.size - (intOf i).toNat)
 case atStart=>exact ⟨0,Nat.zero_le _,rfl,Lib.hid rfl⟩
 case round =>
  obtain ⟨k,hk,rfl,hall⟩:=hrel
  by_cases hlt:k<s.size
  ·have hst:=zpi zoy s k hlt
   have hbad:=fun h=>HV.out (zuh zoy s k hlt h)
   generalize hc:s[k]=c at *
   have HS:=Lib.hid hst;have HB:=Lib.hid hbad;clear hst hbad
   go_wp2
   all_goals (try (go_ret;exact ⟨r1 (vb (HB.out (by (clear hc HS HB hall);(go_light;revert c;decide +kernel))).symm),rfl⟩))
   all_goals
    have hstep:zoy c=true:=by (clear hc HS HB hall);(go_light;revert c;decide +kernel)
    go_round
    case rel=>exact ⟨k+1,by omega,by go_num,Lib.hid (by rw [HS.out,hall.out,hstep];rfl)⟩
    case measure=>simp [intOf];omega
  ·obtain rfl:k=s.size:=by omega
   have hend:=hall.out
   rw [zui] at hend
   have hVe:=HE.out hend
   have HVE:=Lib.hid hVe;clear hend hVe
   go_wp2
   all_goals go_ret
   all_goals refine ⟨r1 (vb ?_),rfl⟩
   all_goals (rw [HVE.out,← ByteArray.toList_eq])
   ·rename_i h _;rw [h];rfl
   ·rw [ByteArray.toList_eq,show s.data.toList.length=s.size from rfl]
    congr 1;rw [decide_eq_decide];omega
theorem zz4 (s:ByteArray) (w:World) (hs:s.size≤maxLen):Calls Tryz.prog 49 #[.string s] w (Same (.bool (zgv s.data.toList)) w):=by
 unfold maxLen at hs
 obtain ⟨V,hV⟩:∃ V,zgv s.data.toList=V:=⟨_,rfl⟩
 rw [hV]
 by_cases hlen:s.size<1∨32<s.size
 ·have hv0:V=false:=by
   rw [← hV,zgv]
   rcases hlen with h | h
   ·have:s.data.toList=[]:=qz (by show s.size=0;omega)
    rw [this];rfl
   ·rw [show s.data.toList.length=s.size from rfl,show decide (s.size≤32)=false by simp;omega];simp
  subst hv0
  clear hV
  by_cases h1:s.size<1
  ·have h1':(s.size:Int)<1:=by omega
   clear hlen
   go_enter Tryz.func49,Tryz.ntmps49
   go_wp2
   go_ret
   exact ⟨rfl,rfl⟩
  ·have h2':(32:Int)<s.size:=by omega
   clear hlen
   go_enter Tryz.func49,Tryz.ntmps49
   go_wp2
   go_ret
   exact ⟨rfl,rfl⟩
 ·have hVa:V=s.data.toList.all zoy:=by
   rw [← hV,zgv,show s.data.toList.length=s.size from rfl,show decide (s.size≤32)=true by simp;omega]
   have:s.data.toList.isEmpty=false:=by
    rcases h:s.data.toList with _ | ⟨c,r⟩
    ·have:s.size=0:=congrArg List.length h
     omega
    ·rfl
   rw [this];simp
  have HV:=Lib.hid hVa.symm;clear hV hVa
  have h1':¬ (s.size:Int)<1:=by omega
  have h2':¬ (32:Int)<s.size:=by omega
  go_enter Tryz.func49,Tryz.ntmps49
  go_wp2
  go_loop [3,4] (fun i _=>∃ k:Nat,k≤s.size∧i=.int .i64 k∧Hid ((s.data.toList.take k).all zoy=true)) (fun i _=>s.size - (intOf i).toNat)
  case atStart=>exact ⟨0,Nat.zero_le _,rfl,Lib.hid rfl⟩
  case round =>
   obtain ⟨k,hk,rfl,hall⟩:=hrel
   by_cases hlt:k<s.size
   ·have hst:=zpi zoy s k hlt
    have hbad:=zuh zoy s k hlt
    rw [HV.out] at hbad
    generalize hc:s[k]=c at *
    have HS:=Lib.hid hst;have HB:=Lib.hid hbad;clear hst hbad
    go_wp2
    all_goals (try (go_ret;exact ⟨r1 (vb (HB.out (by (clear hc HS HB hall);(go_light;revert c;decide +kernel))).symm),rfl⟩))
    all_goals
     have hstep:zoy c=true:=by (clear hc HS HB hall);(go_light;revert c;decide +kernel)
     go_round
     case rel=>exact ⟨k+1,by omega,by go_num,Lib.hid (by rw [HS.out,hall.out,hstep];rfl)⟩
     case measure=>simp [intOf];omega
   ·obtain rfl:k=s.size:=by omega
    have hend:=hall.out
    rw [zui,HV.out] at hend
    subst hend
    go_wp2
    go_ret
    exact ⟨rfl,rfl⟩
theorem zs0 (l:List UInt8) (c:UInt8):zab (l++[c])=zab l++[zqt c]:=by simp [zab]
theorem z2a (s:ByteArray) (k:Nat) (h:k<s.size):s.data.toList.take (k+1)=s.data.toList.take k++[s[k]]:=by
 rw [List.take_succ_eq_append_getElem (by simpa using h)];rfl
theorem zz5 (s:ByteArray) (w:World) (hs:s.size≤1000000):Calls Tryz.prog 64 #[.string s] w (Ret (.string ⟨(zab s.data.toList).toArray⟩) w):=by
 have hlen:s.data.toList.length=s.size:=rfl
 have HL:=Lib.hid hlen;clear hlen
 go_enter Tryz.func64,Tryz.ntmps64
 go_wp2
 go_loopw [3,4,5] (fun v i _ wr=>∃ (k:Nat) (acc:List UInt8),k≤s.size∧i=.int .i64 k∧acc.length=k∧OwnB w.heap.size 5 v acc wr∧Below w.heap.size w wr∧Hid (acc=zab (s.data.toList.take k)))
  (fun _ i _ _=>s.size - (intOf i).toNat)
 case atStart=>exact ⟨0,[],Nat.zero_le _,rfl,rfl,OwnB.made w (Nat.le_refl _) _ _ rfl (by decide),(Below.refl _ _).alloc (Nat.le_refl _) _,Lib.hid rfl⟩
 case round =>
  obtain ⟨k,acc,hk,rfl,hal,hown,hbel,hacc⟩:=hrel
  by_cases hlt:k<s.size
  ·have hst:zab (s.data.toList.take (k+1))=acc++[zqt s[k]]:=by rw [z2a s k hlt,zs0,hacc.out]
   generalize hc:s[k]=c at *
   obtain ⟨d,hd⟩:∃ d,zqt c=d:=⟨_,rfl⟩
   rw [hd] at hst
   have HS:=Lib.hid hst
   have hal':acc.length≤1000000:=by omega
   have HAL:=Lib.hid hal;clear hal hst
   by_cases hup:65≤c∧c≤90
   ·have f1:(65:Int)≤c.toNat:=by have:=UInt8.le_iff_toNat_le.1 hup.1;exact Int.ofNat_le.2 this
    have f2:(c.toNat:Int)≤90:=by have:=UInt8.le_iff_toNat_le.1 hup.2;exact Int.ofNat_le.2 this
    have f3:(c.toNat:Int)+32=d.toNat:=by rw [← hd];clear hd hc HS HAL hacc hown hbel;revert c;decide +kernel
    clear hd hup
    go_wp2_with (at_builtin;refine zjv (by rfl) _ _ _ (by rfl) 5 Tryz.underlying44 infoByte w.heap.size wr _ _ (by rfl) hown d (by rfl) (by omega) hbel.size ?_;intro g cap w1 hg hown1 hgr hb1 hsz1)
    go_roundw
    case rel=>exact ⟨k+1,acc++[d],by omega,by go_num,by have:=HAL.out;simp;omega,hown1,hbel.trans hb1,Lib.hid HS.out.symm⟩
    case measure=>simp [intOf];omega
   ·have f1:¬ ((65:Int)≤c.toNat∧(c.toNat:Int)≤90):=by
     intro h;apply hup
     exact ⟨UInt8.le_iff_toNat_le.2 (Int.ofNat_le.1 h.1),UInt8.le_iff_toNat_le.2 (Int.ofNat_le.1 h.2)⟩
    have f3:d=c:=by rw [← hd,zqt];rw [if_neg];simpa using hup
    subst f3
    clear hd hup
    by_cases f2:(65:Int)≤d.toNat
    all_goals
     go_wp2_with (at_builtin;refine zjv (by rfl) _ _ _ (by rfl) 5 Tryz.underlying44 infoByte w.heap.size wr _ _ (by rfl) hown d (by rfl) (by omega) hbel.size ?_;intro g cap w1 hg hown1 hgr hb1 hsz1)
     go_roundw
     case rel=>exact ⟨k+1,acc++[d],by omega,by go_num,by have:=HAL.out;simp;omega,hown1,hbel.trans hb1,Lib.hid HS.out.symm⟩
     case measure=>simp [intOf];omega
  ·obtain rfl:k=s.size:=by omega
   have hfin:acc=zab s.data.toList:=by rw [hacc.out,List.take_of_length_le (by rw [HL.out];exact Nat.le_refl _)]
   have HF:=Lib.hid hfin;clear hfin
   have kc:=zg8 (P:=Tryz.prog) Tryz.underlying44 Tryz.underlying5 Tryz.underlying9 hown
   go_wp2
   go_ret
   exact ⟨r1 (by rw [HF.out];rfl),hbel⟩
end Go.Proofs.YtmpiobfdchlikaaGreatDoor
end
section
namespace Nun
open Go Go.RowKit
def BytesAt (g:Nat) (l:List UInt8) (w:World):Prop:=g<w.heap.size∧∀ (j:Nat) (c:UInt8),l[j]? =some c→w.cell? ⟨g,j,none⟩=some (.int .u8 c.toNat)∧w.frozen? ⟨g,j,none⟩=false
theorem z2b {P:Program} (w:World) (src dst e:TypeId) (s:ByteArray) (hs:P.underlying src=some .string) (hd:P.underlying dst=some (.slice e)) (he:P.underlying e=some (.int .u8)) :
 ∃ cap w1,(convert src dst (.string s)).run P w=.ok (.slice (some ⟨w.heap.size,0,none⟩) s.size cap) w1∧s.size≤cap∧BytesAt w.heap.size s.data.toList w1∧Below w.heap.size w w1:=by
 obtain ⟨cap,hcap⟩:∃ cap,grownCap w s.size 0 e=cap:=⟨_,rfl⟩
 have hge:s.size≤cap:=by rw [← hcap];exact grownCap_ge _ _ _ _
 refine ⟨cap,_,by rw [run_bytes_of_string w src dst e s hs hd he,hcap],hge,⟨by simp,fun j c hj=>?_⟩,?_⟩
 ·have hjs:j<s.size:=(qg hj).1
  have hrow:(w.drew.alloc (.cells (bytesRow s cap) e ((bytesRow s cap).size,(bytesRow s cap).size+1))).heap[w.heap.size]? =some (.cells (bytesRow s cap) e ((bytesRow s cap).size,(bytesRow s cap).size+1)):=heap_alloc_new w.drew _
  have hsz:(bytesRow s cap).size=cap:=by
   unfold bytesRow;rw [Array.size_append,Array.size_map,Array.size_replicate,show s.data.size=s.size from rfl];omega
  refine ⟨?_,?_⟩
  ·rw [cell_of_row _ _ _ _ _ _ hrow]
   unfold bytesRow
   rw [Array.getElem?_append_left (by rw [Array.size_map];exact hjs),Array.getElem?_map]
   have:s.data[j]? =some c:=by rw [← Array.getElem?_toList];exact hj
   rw [this];rfl
  ·unfold World.frozen?
   simp only [hrow]
   rw [hsz];simp;omega
 ·exact (below_drewN' w 1).alloc (Nat.le_refl _) _
theorem BytesAt.kept {g:Nat} {l:List UInt8} {w w':World} (h:BytesAt g l w) (k:Below w.heap.size w w'):BytesAt g l w' :=
 ⟨Nat.lt_of_lt_of_le h.1 k.size,fun j c hj=>⟨(k.cell (p:=⟨g,j,none⟩) h.1).trans (h.2 j c hj).1,(k.frozen (p:=⟨g,j,none⟩) h.1).trans (h.2 j c hj).2⟩⟩
theorem BytesAt.put {g:Nat} {l:List UInt8} {w:World} (h:BytesAt g l w) (k:Nat) (hk:k<l.length) (d:UInt8):BytesAt g (l.set k d) (w.setCell ⟨g,k,none⟩ (.int .u8 d.toNat)):=by
 have hc:=(h.2 k _ (qe hk)).1
 refine ⟨by have:=h.1;simpa using this,fun j c hj=>?_⟩
 by_cases hjk:j=k
 ·subst hjk
  rw [List.getElem?_set_self hk] at hj
  cases hj
  exact ⟨World.cell?_setCell_same _ _ _ hc,by rw [World.frozen?_setCell];exact (h.2 _ _ (qe hk)).2⟩
 ·rw [List.getElem?_set_ne (by omega)] at hj
  obtain ⟨h1,h2⟩:=h.2 j c hj
  exact ⟨by rw [World.cell?_setCell_other _ _ _ _ (by simp [Ne.symm hjk])];exact h1,by rw [World.frozen?_setCell];exact h2⟩
theorem BytesAt.back {P:Program} {src dst e:TypeId} (hs:P.underlying src=some (.slice e)) (he:P.underlying e=some (.int .u8)) (hd:P.underlying dst=some .string) {g:Nat} {l:List UInt8} {w:World} (h:BytesAt g l w) (cap:Nat) :
 (convert src dst (.slice (some ⟨g,0,none⟩) l.length cap)).run P w=.ok (.string ⟨l.toArray⟩) w :=
 run_convert_bytes_back w src dst e ⟨g,0,none⟩ cap l hs he hd fun j hj=>by
  have:(⟨g,0,none⟩:Addr).add j=⟨g,j,none⟩:=by unfold Addr.add;split<;>simp_all
  rw [this];exact (h.2 j _ (qe hj)).1
end Nun
end
section
set_option synthInstance.maxSize 4000
namespace Go.Proofs.YtmpiobfdchlikaaGreatDoor
open Go.RowKit Nun
theorem ycw (s:List UInt8) (k:Nat) (h:k<s.length):zab (s.take (k+1))++s.drop (k+1)=(zab (s.take k)++s.drop k).set k (zqt s[k]):=by
 have hl:(zab (s.take k)).length=k:=by simp [zab];omega
 rw [List.take_succ_eq_append_getElem h,zs0,List.drop_eq_getElem_cons h,List.append_assoc,List.set_append_right _ _ (by omega),hl]
 simp only [Nat.sub_self,List.set_cons_zero,List.singleton_append]
theorem zs1 (s:ByteArray) (w:World) (hs:s.size≤1000000):Calls Tryz.prog 73 #[.string s] w (Ret (.string ⟨(zab s.data.toList).toArray⟩) w):=by
 have hlen:s.data.toList.length=s.size:=rfl
 have HL:=Lib.hid hlen;clear hlen
 obtain ⟨cap,w1,hconv,hcap,hby,hbel⟩:=z2b (P:=Tryz.prog) w 9 44 5 s Tryz.underlying9 Tryz.underlying44 Tryz.underlying5
 obtain ⟨B,hB⟩:∃ B,w.heap.size=B:=⟨_,rfl⟩
 rw [hB] at hconv hby hbel
 have HB:=Lib.hid hB;clear hB
 have HBy:=Lib.hid hby;clear hby
 have hbel':Below w.heap.size w w1:=by rw [HB.out];exact hbel
 go_enter Tryz.func73,Tryz.ntmps73
 go_wp2
 go_loopw [4,5,10] (fun _ _ i wr=>∃ (k:Nat) (l:List UInt8),k≤s.size∧i=.int .i64 k∧l.length=s.size∧BytesAt B l wr∧Below B w wr∧Hid (l=zab (s.data.toList.take k)++s.data.toList.drop k))
  (fun _ _ i _=>s.size - (intOf i).toNat)
 case atStart=>exact ⟨0,s.data.toList,Nat.zero_le _,rfl,rfl,HBy.out,hbel,Lib.hid rfl⟩
 case round =>
  obtain ⟨k,l,hk,rfl,hll,hb,hbl,hl⟩:=hrel
  by_cases hlt:k<s.size
  ·have hst:=ycw s.data.toList k hlt
   rw [← hl.out] at hst
   have hget:l[k]? =some s[k]:=by
    rw [hl.out,List.getElem?_append_right (by simp [zab];omega)]
    simp [zab]
    rw [show min k s.size=k by omega];simp
    exact Array.getElem?_eq_getElem hlt
   have hkl:k<l.length:=by omega
   have hsk:s.data.toList[k]'hlt=s[k]:=rfl
   rw [hsk] at hst
   clear hsk
   have hlk:l[k]'hkl=s[k]:=(qg hget).2
   generalize hc:s[k]=c at *
   obtain ⟨d,hd⟩:∃ d,zqt c=d:=⟨_,rfl⟩
   rw [hd] at hst
   obtain ⟨hcell,hfr⟩:=hb.2 k c hget
   have HS:=Lib.hid hst;have HLL:=Lib.hid hll;have HK:=Lib.hid hlk;clear hst hget hll hlk
   by_cases hup:65≤c∧c≤90
   ·have f1:(65:Int)≤c.toNat:=by have:=UInt8.le_iff_toNat_le.1 hup.1;exact Int.ofNat_le.2 this
    have f2:(c.toNat:Int)≤90:=by have:=UInt8.le_iff_toNat_le.1 hup.2;exact Int.ofNat_le.2 this
    have f3:bits .or .u8 (c.toNat:Int) 32=d.toNat:=by rw [← hd];clear hd hc HS HLL hl hb hbl hcell hfr HK;revert c;decide +kernel
    have hb2:=hb.put k hkl d
    have HB2:=Lib.hid hb2
    clear hd hup hb2
    go_wp2
    go_roundw
    case rel=>exact ⟨k+1,l.set k d,by omega,by go_num,by have:=HLL.out;simp;omega,HB2.out,hbl.setCell (Nat.le_refl _) _,Lib.hid HS.out.symm⟩
    case measure=>simp [intOf];omega
   ·have f1:¬ ((65:Int)≤c.toNat∧(c.toNat:Int)≤90):=by
     intro h;apply hup
     exact ⟨UInt8.le_iff_toNat_le.2 (Int.ofNat_le.1 h.1),UInt8.le_iff_toNat_le.2 (Int.ofNat_le.1 h.2)⟩
    have f3:d=c:=by rw [← hd,zqt];rw [if_neg];simpa using hup
    have hsame:l.set k d=l:=by
     rw [f3,← HK.out];exact List.set_getElem_self hkl
    have HSame:=Lib.hid hsame
    subst f3
    clear hd hup hsame
    by_cases f2:(65:Int)≤d.toNat
    all_goals (try have f3:(90:Int)<d.toNat:=by omega)
    all_goals clear f1
    all_goals clear hc hconv
    all_goals
     go_wp2
     go_roundw
     case rel=>exact ⟨k+1,l,by omega,by go_num,HLL.out,hb,hbl,Lib.hid (by rw [HS.out,HSame.out])⟩
     case measure=>simp [intOf];omega
  ·obtain rfl:k=s.size:=by omega
   have hfin:l=zab s.data.toList:=by rw [hl.out,List.take_of_length_le (by rw [HL.out];exact Nat.le_refl _),List.drop_of_length_le (by rw [HL.out];exact Nat.le_refl _),List.append_nil]
   have HF:=Lib.hid hfin;clear hfin
   have kc:=hb.back (P:=Tryz.prog) Tryz.underlying44 Tryz.underlying5 Tryz.underlying9 cap
   rw [hll] at kc
   go_wp2
   go_ret
   exact ⟨r1 (by rw [HF.out];rfl),by rw [HB.out];exact hbl⟩
theorem zwh (l:List UInt8):(zab l).length=l.length:=by simp [zab]
theorem z67 (s:ByteArray) (l:List UInt8) (h:zab s.data.toList=l) (w:World) (hs:s.size≤1000000):Calls Tryz.prog 73 #[.string s] w (Ret (.string ⟨l.toArray⟩) w):=h ▸ zs1 s w hs
theorem zpj (s:ByteArray) (l:List UInt8) (h:zab s.data.toList=l) (w:World) (hs:s.size≤1000000):Calls Tryz.prog 64 #[.string s] w (Ret (.string ⟨l.toArray⟩) w):=h ▸ zz5 s w hs
theorem zwi (s t:ByteArray) (w:World) (hs:s.size≤1000000) (ht:t.size≤1000000):Calls Tryz.prog 126 #[.string s,.string t] w (Ret (.bool (zab s.data.toList == zab t.data.toList)) w):=by
 have hl1:=zwh s.data.toList
 have hl2:=zwh t.data.toList
 obtain ⟨x,hx⟩:∃ x,zab s.data.toList=x:=⟨_,rfl⟩
 obtain ⟨y,hy⟩:∃ y,zab t.data.toList=y:=⟨_,rfl⟩
 rw [hx] at hl1 ⊢;rw [hy] at hl2 ⊢
 have hX:=Lib.hid hx;have hY:=Lib.hid hy;clear hx hy
 by_cases hlen:s.size=t.size
 ·obtain ⟨b,hb⟩:∃ b,(x == y)=b:=⟨_,rfl⟩
  rw [hb]
  have hb2:((⟨x.toArray⟩:ByteArray).toList == (⟨y.toArray⟩:ByteArray).toList)=b:=by rw [ByteArray.toList_eq,ByteArray.toList_eq];exact hb
  have hse:((s.size:Int) == (t.size:Int))=true:=by rw [hlen];simp
  clear hlen hl1 hl2
  have HB:=Lib.hid hb;have HB2:=Lib.hid hb2;clear hb hb2
  go_enter Tryz.func126,Tryz.ntmps126
  go_wp2_with (go_at_call 73;first | ((with_reducible refine (z67 s x hX.out _ hs).mono ?_);rintro e w1 ⟨rfl,hb1⟩) | ((with_reducible refine (z67 t y hY.out _ ht).mono ?_);rintro e w2 ⟨rfl,hb2⟩))
  go_ret
  exact ⟨r1 (vb HB.out),yci hb1 hb2⟩
 ·have hf:(x == y)=false:=by
   rw [beq_eq_false_iff_ne];intro h
   have:=congrArg List.length h
   rw [hl1,hl2] at this
   exact hlen this
  rw [hf]
  have hse:((s.size:Int) == (t.size:Int))=false:=by rw [beq_eq_false_iff_ne];omega
  clear hlen hl1 hl2 hf
  go_enter Tryz.func126,Tryz.ntmps126
  go_wp2
  go_ret
  exact ⟨rfl,Below.refl _ _⟩
end Go.Proofs.YtmpiobfdchlikaaGreatDoor
namespace Nun
theorem zh8 (l:List UInt8) (c:UInt8):zen (l++[c])=if zal c then zen l else l++[c]:=by
 unfold zen
 rw [List.reverse_append,List.reverse_singleton,List.singleton_append,List.dropWhile_cons]
 cases zal c<;>simp
theorem zhc (p:UInt8→Bool):∀ l:List UInt8,l.dropWhile p=[] ↔ l.all p=true
 | []=>by simp
 | c::l=>by
   rw [List.dropWhile_cons,List.all_cons,Bool.and_eq_true]
   cases h:p c
   ·simp
   ·simpa using zhc p l
theorem zon (c:UInt8) (l:List UInt8):zen (c::l)=if l.all zal && zal c then [] else c::zen l:=by
 unfold zen
 rw [List.reverse_cons,List.dropWhile_append]
 have ha:(l.reverse.dropWhile zal).isEmpty=l.all zal:=by
  rw [Bool.eq_iff_iff,List.isEmpty_iff,zhc,List.all_reverse]
 rw [ha]
 cases h:l.all zal
 ·simp
 ·have h0:l.reverse.dropWhile zal=[]:=(zhc _ _).2 (by rw [List.all_reverse];exact h)
  rw [h0]
  cases hb:zal c<;>simp [hb]
theorem z68 (l:List UInt8):(zen l).dropWhile zal=zen (l.dropWhile zal):=by
 induction l with
 | nil=>rfl
 | cons c l ih =>
   rw [zon,List.dropWhile_cons]
   cases hb:zal c
   ·simp [hb,zon]
   ·cases ha:l.all zal
    ·simp [hb,ih]
    ·have:l.dropWhile zal=[]:=(zhc _ _).2 ha
     simp [this,zen]
theorem zwj (c:UInt8):([32,9]:List UInt8).contains c=zal c:=by
 rw [Bool.eq_iff_iff];simp [zal]
theorem zyd (l:List UInt8):Go.Lib.trimS l [32,9]=trimB l:=by
 unfold Go.Lib.trimS Go.Lib.trimLeftS Go.Lib.trimRightS trimB
 simp only [zwj]
 exact z68 l
theorem zrc (l:List UInt8):Go.Lib.trimLeftS l [32,9]=l.dropWhile zal:=by
 unfold Go.Lib.trimLeftS
 simp only [zwj]
theorem zz6 (t:ByteArray) (h:0<t.size):t.data.toList=t[0]::(t.extract 1 t.size).data.toList:=by
 have h':0<t.data.toList.length:=h
 have e:=List.drop_eq_getElem_cons h'
 rw [List.drop_zero] at e
 rw [Go.Lib.extract_data,List.take_of_length_le (by rw [List.length_drop];show t.size - 1≤t.size - 1;omega)]
 exact e
theorem zwk (t:ByteArray) (h:0<t.size):t.data.toList=(t.extract 0 (t.size - 1)).data.toList++[t[t.size - 1]]:=by
 have h':t.size - 1<t.data.toList.length:=by show t.size - 1<t.size;omega
 have e:=List.take_succ_eq_append_getElem h'
 rw [show t.size - 1+1=t.size by omega,List.take_of_length_le (by show t.size≤t.size;omega)] at e
 rw [Go.Lib.extract_data,List.drop_zero,Nat.sub_zero]
 exact e
def begL (s x:List UInt8) (k:Nat):Bool:=decide (k≤s.length) && ((s.drop k).take x.length == x)
end Nun
namespace Go.Proofs.YtmpiobfdchlikaaGreatDoor
open Go.RowKit Nun
theorem z2c (s:ByteArray) (w:World) (hs:s.size≤1000000000):Calls Tryz.prog 124 #[.string s] w (Ret (.string ⟨(trimB s.data.toList).toArray⟩) w):=by
 have h:=Any.strings_Trim_laid Tryz.lays160 (by kernel_rfl) s ⟨#[32,9]⟩ w (by omega) (by decide) (ascii_of_all (by decide))
 rw [show (ByteArray.mk #[32,9]).data.toList=[32,9] from rfl,zyd] at h
 have H:=Lib.hid h;clear h
 go_enter Tryz.func124,Tryz.ntmps124
 go_wp2_with (go_at_call 172;refine H.out.mono ?_;rintro e w1 ⟨rfl,hb1⟩)
 go_ret
 exact ⟨rfl,hb1⟩
theorem ycx (s:ByteArray) (w:World) (hs:s.size≤1000000000):Calls Tryz.prog 114 #[.string s] w (Same (.string ⟨(trimB s.data.toList).toArray⟩) w):=by
 obtain ⟨D,hD⟩:∃ D,s.data.toList.dropWhile zal=D:=⟨_,rfl⟩
 obtain ⟨V,hV⟩:∃ V,zen D=V:=⟨_,rfl⟩
 have hVV:trimB s.data.toList=V:=by rw [trimB,hD,hV]
 rw [hVV]
 have HD:=Lib.hid hD;have HV:=Lib.hid hV;clear hD hV hVV
 go_enter Tryz.func114,Tryz.ntmps114
 go_wp2
 go_loop [0] (fun v=>∃ t:ByteArray,v=.string t∧t.size≤1000000000∧Hid (t.data.toList.dropWhile zal=D)) (fun v=>match v with | .string t=>t.size | _=>0)
 case atStart=>exact ⟨s,rfl,hs,HD⟩
 case round =>
  obtain ⟨t,rfl,ht,hd⟩:=hrel
  have hcase:(∃ h:0<t.size,zal t[0]=true)∨((t.size=0∨∃ h:0<t.size,zal t[0]=false)∧t.data.toList=D):=by
   by_cases hpos:0<t.size
   ·have hcons:=zz6 t hpos
    by_cases hb:zal t[0]=true
    ·exact .inl ⟨hpos,hb⟩
    ·refine .inr ⟨.inr ⟨hpos,by simpa using hb⟩,?_⟩
     rw [← hd.out];conv=>rhs;rw [hcons,List.dropWhile_cons,if_neg hb]
     exact hcons
   ·refine .inr ⟨.inl (by omega),?_⟩
    rw [← hd.out,qz (l:=t.data.toList) (by show t.size=0;omega)];rfl
  rcases hcase with ⟨hpos,hb⟩ | ⟨hor,hT⟩
  ·have hcons:=zz6 t hpos
   have hstep:(t.extract 1 t.size).data.toList.dropWhile zal=D:=by rw [← hd.out,hcons,List.dropWhile_cons,hb];rfl
   have HS:=Lib.hid hstep
   have hb2:((t[0].toNat:Int) == 32)=true∨((t[0].toNat:Int) == 32)=false∧((t[0].toNat:Int) == 9)=true:=by
    clear hcons hstep HS;revert hb;generalize t[0]=c;clear hd;revert c;decide +kernel
   have hxs:(t.extract 1 t.size).size=t.size - 1:=by rw [ByteArray.size_extract];omega
   clear hcons hb hstep
   rcases hb2 with q1 | ⟨q1,q2⟩
   all_goals
    go_wp2
    go_round
    case rel=>exact ⟨_,rfl,by omega,HS⟩
    case measure=>simp;omega
  ·have HT:=Lib.hid hT
   clear hT hd
   rcases hor with h0 | ⟨hpos,hb⟩
   case inr =>
    have hb2:((t[0].toNat:Int) == 32)=false∧((t[0].toNat:Int) == 9)=false:=by
     clear HT;revert hb;generalize t[0]=c;revert c;decide +kernel
    obtain ⟨q1,q2⟩:=hb2
    clear hb
    go_wp2
    go_loop [0] (fun v=>∃ u:ByteArray,v=.string u∧u.size≤1000000000∧Hid (zen u.data.toList=V)) (fun v=>match v with | .string t=>t.size | _=>0)
    case atStart=>exact ⟨t,rfl,ht,Lib.hid (by rw [HT.out];exact HV.out)⟩
    case round =>
     obtain ⟨u,rfl,hu,hd⟩:=hrel
     by_cases hup:0<u.size
     ·have hlast:=zwk u hup
      by_cases hbu:zal (u[u.size - 1]'(by omega))=true
      ·have hstep:zen (u.extract 0 (u.size - 1)).data.toList=V:=by rw [← hd.out,hlast,zh8,if_pos hbu]
       have HS:=Lib.hid hstep
       have hb2:(((u[u.size - 1]'(by omega)).toNat:Int) == 32)=true∨(((u[u.size - 1]'(by omega)).toNat:Int) == 32)=false∧(((u[u.size - 1]'(by omega)).toNat:Int) == 9)=true:=by
        clear hlast hstep HS;revert hbu;generalize u[u.size - 1]'(by omega)=c;clear hd HT;revert c;decide +kernel
       have hxs:(u.extract 0 (u.size - 1)).size=u.size - 1:=by rw [ByteArray.size_extract];omega
       clear hlast hbu hstep
       rcases hb2 with q3 | ⟨q3,q4⟩
       all_goals
        go_wp2
        go_round
        case rel=>exact ⟨_,rfl,by omega,HS⟩
        case measure=>simp;omega
      ·have hT:u.data.toList=V:=by
        rw [← hd.out];conv=>rhs;rw [hlast,zh8,if_neg hbu]
        exact hlast
       have HU:=Lib.hid hT
       have hb2:(((u[u.size - 1]'(by omega)).toNat:Int) == 32)=false∧(((u[u.size - 1]'(by omega)).toNat:Int) == 9)=false:=by
        clear hlast hT HU;revert hbu;generalize u[u.size - 1]'(by omega)=c;clear hd HT;revert c;decide +kernel
       obtain ⟨q3,q4⟩:=hb2
       clear hlast hbu hT
       go_wp2
       go_ret
       exact ⟨r1 (vS HU.out),rfl⟩
     ·have hT:u.data.toList=V:=by
       rw [← hd.out,qz (l:=u.data.toList) (by show u.size=0;omega)];rfl
      have HU:=Lib.hid hT
      have h1':¬ (0:Int)<u.size:=by omega
      clear hT
      go_wp2
      go_ret
      exact ⟨r1 (vS HU.out),rfl⟩
   case inl =>
    have h0':¬ (0:Int)<t.size:=by omega
    clear h0
    go_wp2
    go_loop [0] (fun v=>∃ u:ByteArray,v=.string u∧u.size≤1000000000∧Hid (zen u.data.toList=V)) (fun v=>match v with | .string t=>t.size | _=>0)
    case atStart=>exact ⟨t,rfl,ht,Lib.hid (by rw [HT.out];exact HV.out)⟩
    case round =>
     obtain ⟨u,rfl,hu,hd⟩:=hrel
     by_cases hup:0<u.size
     ·have hlast:=zwk u hup
      by_cases hbu:zal (u[u.size - 1]'(by omega))=true
      ·have hstep:zen (u.extract 0 (u.size - 1)).data.toList=V:=by rw [← hd.out,hlast,zh8,if_pos hbu]
       have HS:=Lib.hid hstep
       have hb2:(((u[u.size - 1]'(by omega)).toNat:Int) == 32)=true∨(((u[u.size - 1]'(by omega)).toNat:Int) == 32)=false∧(((u[u.size - 1]'(by omega)).toNat:Int) == 9)=true:=by
        clear hlast hstep HS;revert hbu;generalize u[u.size - 1]'(by omega)=c;clear hd HT;revert c;decide +kernel
       have hxs:(u.extract 0 (u.size - 1)).size=u.size - 1:=by rw [ByteArray.size_extract];omega
       clear hlast hbu hstep
       rcases hb2 with q3 | ⟨q3,q4⟩
       all_goals
        go_wp2
        go_round
        case rel=>exact ⟨_,rfl,by omega,HS⟩
        case measure=>simp;omega
      ·have hT:u.data.toList=V:=by
        rw [← hd.out];conv=>rhs;rw [hlast,zh8,if_neg hbu]
        exact hlast
       have HU:=Lib.hid hT
       have hb2:(((u[u.size - 1]'(by omega)).toNat:Int) == 32)=false∧(((u[u.size - 1]'(by omega)).toNat:Int) == 9)=false:=by
        clear hlast hT HU;revert hbu;generalize u[u.size - 1]'(by omega)=c;clear hd HT;revert c;decide +kernel
       obtain ⟨q3,q4⟩:=hb2
       clear hlast hbu hT
       go_wp2
       go_ret
       exact ⟨r1 (vS HU.out),rfl⟩
     ·have hT:u.data.toList=V:=by
       rw [← hd.out,qz (l:=u.data.toList) (by show u.size=0;omega)];rfl
      have HU:=Lib.hid hT
      have h1':¬ (0:Int)<u.size:=by omega
      clear hT
      go_wp2
      go_ret
      exact ⟨r1 (vS HU.out),rfl⟩
theorem z2d (s x:ByteArray) (k:Nat) (w:World) (hs:s.size≤1000000000) (hx:x.size≤1000000000) (hk:k≤1000000000):Calls Tryz.prog 60 #[.string s,.string x,.int .i64 k] w (Same (.bool (begL s.data.toList x.data.toList k)) w):=by
 obtain ⟨V,hV⟩:∃ V,begL s.data.toList x.data.toList k=V:=⟨_,rfl⟩
 rw [hV]
 by_cases h1:k≤s.size
 ·by_cases h2:x.size≤s.size - k
  ·have h2':(x.size:Int)≤s.size - k:=by omega
   have hv:V=((s.extract k (k+x.size)).toList == x.toList):=by
    rw [← hV,begL,show decide (k≤s.data.toList.length)=true by simp;exact h1,Bool.true_and,ByteArray.toList_eq,ByteArray.toList_eq,Lib.extract_data,Nat.add_sub_cancel_left];rfl
   have HV:=Lib.hid hv;clear hV hv
   go_enter Tryz.func60,Tryz.ntmps60
   go_wp2
   go_ret
   exact ⟨r1 (vb HV.out.symm),rfl⟩
  ·have h2':¬ (x.size:Int)≤s.size - k:=by omega
   have hv:V=false:=by
    rw [← hV,begL,Bool.and_eq_false_iff];right
    rw [beq_eq_false_iff_ne];intro h
    have:=congrArg List.length h
    rw [List.length_take,List.length_drop,show s.data.toList.length=s.size from rfl,show x.data.toList.length=x.size from rfl] at this
    omega
   subst hv
   clear hV
   go_enter Tryz.func60,Tryz.ntmps60
   go_wp2
   go_ret
   exact ⟨rfl,rfl⟩
 ·have h1':¬ (k:Int)≤s.size:=by omega
  have hv:V=false:=by
   rw [← hV,begL,show decide (k≤s.data.toList.length)=false by simp;exact Nat.lt_of_not_le h1];rfl
  subst hv
  clear hV
  go_enter Tryz.func60,Tryz.ntmps60
  go_wp2
  go_ret
  exact ⟨rfl,rfl⟩
end Go.Proofs.YtmpiobfdchlikaaGreatDoor
end
section
namespace Nun
open Go Go.RowKit
section
variable {F:Fence} {n:Nat} {P:Program} {b:Frame} {a:Act} {k:List Item} {cs:List Frame} {w:World} {Q:Exit→Act→World→Prop}
end
theorem zjk {w w':World} (h:Below w.heap.size w w'):KeepsOthers w w':=by
 refine ⟨h.size,fun k o hk hc=>?_⟩
 exact (h.block k (Array.getElem?_eq_some_iff.1 hk).1).trans hk
def zkm (b:Nat) (W W':World):Prop:=W'.heap[b]? =W.heap[b]?
theorem zwl {b:Nat} {A B C:World} (h:zkm b A B) (k:zkm b B C):zkm b A C:=Eq.trans k h
theorem zwm {b:Nat} {w:World} (hb:b<w.heap.size) (W:World) (l:Nat) (o o':Obj) (hl:w.heap.size≤l) (h:W.heap[l]? =some o) (_:o.isCells=false) (_:o.isWalk=false):zkm b W (W.putObj l o') :=
 World.putObj_heap_other (by omega)
theorem zoo {β:Type} {B:Nat} {J:β→World→Prop} (h:AbidesFrom B J) {s:β} {W W':World} (hJ:J s W) (k:Below W.heap.size W W'):J s W' :=
 h s W W' none hJ ⟨k.os,k.tape,k.output,k.size,fun i hi _=>k.block i hi⟩ (fun r e=>by cases e)
theorem zjl {b:Nat} {W W':World} (hb:b<W.heap.size) (k:Below W.heap.size W W'):zkm b W W':=k.block b hb
end Nun
end
section
namespace Nun
open Go Go.RowKit
abbrev zb8:={ p:ByteArray × Nat // p.1.size≤10000∧p.2≤20000 }
def zb8.pair (p:zb8):List UInt8 × Nat:=(p.1.1.data.toList,p.1.2)
def zez (b c:Nat) (W W':World):Prop:=zkm b W W'∧zkm c W W'
theorem zla {b c:Nat} {A B C:World} (h:zez b c A B) (k:zez b c B C):zez b c A C:=⟨zwl h.1 k.1,zwl h.2 k.2⟩
theorem z2e {b c:Nat} {w:World} (hb:b<w.heap.size) (hc:c<w.heap.size) (W:World) (l:Nat) (o o':Obj) (hl:w.heap.size≤l) (h:W.heap[l]? =some o) (h1:o.isCells=false) (h2:o.isWalk=false):zez b c W (W.putObj l o') :=
 ⟨zwm hb W l o o' hl h h1 h2,zwm hc W l o o' hl h h1 h2⟩
theorem zlp {b c:Nat} {W W':World} (hb:b<W.heap.size) (hc:c<W.heap.size) (k:Below W.heap.size W W'):zez b c W W':=⟨zjl hb k,zjl hc k⟩
def zfu (W:World):Prop:=∃ m,W.cell? ⟨0,0,none⟩=some (.int .i64 m)
theorem zfu.kept {W W':World} (h:zfu W) (k:zkm 0 W W'):zfu W':=by
 obtain ⟨m,hm⟩:=h
 exact ⟨m,by unfold World.cell? at hm ⊢;rw [k];exact hm⟩
theorem zfu.lt {W:World} (h:zfu W):0<W.heap.size:=by
 obtain ⟨m,hm⟩:=h
 exact World.block_lt_of_cell? W _ hm
theorem zfu.below {W W':World} (h:zfu W) (k:Below W.heap.size W W'):zfu W':=h.kept (zjl h.lt k)
theorem zfu.below' {B:Nat} {W W':World} (h:zfu W) (hB:0<B) (k:Below B W W'):zfu W':=h.kept (k.block _ hB)
def yel (s:ByteArray) (k d:Nat) (w:World) (e:Ending) (w':World):Prop:=∃ a b:ByteArray,e=.returned (.tuple #[.string a,.string b,.bool true])∧a.size=k∧b.size+(k+d)=s.size∧Hid (a.data.toList=s.data.toList.take k)∧Hid (b.data.toList=s.data.toList.drop (k+d))∧Below w.heap.size w w'
def ypk (s:ByteArray) (w:World) (e:Ending) (w':World):Prop:=e=.returned (.tuple #[.string s,.string ⟨#[]⟩,.bool false])∧Below w.heap.size w w'
end Nun
namespace Go.Proofs.YtmpiobfdchlikaaGreatDoor
open Go Go.RowKit Nun
theorem zye (s:ByteArray) (w:World) (hm:zfu w) (hs:s.size≤1000000) (ho:crAt s.data.toList=none):Calls Tryz.prog 79 #[.string s,.string ⟨#[13,10]⟩] w (ypk s w):=by
 obtain ⟨m,hm⟩:=hm
 refine (Tryz.strings_Cut s ⟨#[13,10]⟩ m w (by omega) hm).mono ?_
 rintro e w' ⟨rfl,n,rfl⟩
 refine ⟨?_,below_drewN' w n⟩
 rw [show (ByteArray.mk #[13,10]).data.toList=[13,10] from rfl,zzw,ho]
theorem zwn (s:ByteArray) (w:World) (hm:zfu w) (hs:s.size≤1000000) (k:Nat) (ho:crAt s.data.toList=some k):Calls Tryz.prog 79 #[.string s,.string ⟨#[13,10]⟩] w (yel s k 2 w):=by
 obtain ⟨m,hm⟩:=hm
 refine (Tryz.strings_Cut s ⟨#[13,10]⟩ m w (by omega) hm).mono ?_
 rintro e w' ⟨rfl,n,rfl⟩
 have hl:=zgw ho
 rw [show s.data.toList.length=s.size from rfl] at hl
 refine ⟨⟨(s.data.toList.take k).toArray⟩,⟨(s.data.toList.drop (k+2)).toArray⟩,?_,?_,?_,Lib.hid rfl,Lib.hid rfl,below_drewN' w n⟩
 ·rw [show (ByteArray.mk #[13,10]).data.toList=[13,10] from rfl,zzw,ho]
 ·rw [zug,List.length_take,show s.data.toList.length=s.size from rfl];omega
 ·rw [zug,List.length_drop,show s.data.toList.length=s.size from rfl];omega
theorem zyf (c:UInt8) (s:ByteArray) (w:World) (hm:zfu w) (hs:s.size≤1000000) (ho:zdp c s.data.toList=none):Calls Tryz.prog 79 #[.string s,.string ⟨#[c]⟩] w (ypk s w):=by
 obtain ⟨m,hm⟩:=hm
 refine (Tryz.strings_Cut s ⟨#[c]⟩ m w (by omega) hm).mono ?_
 rintro e w' ⟨rfl,n,rfl⟩
 refine ⟨?_,below_drewN' w n⟩
 rw [show (ByteArray.mk #[c]).data.toList=[c] from rfl,zzx,ho]
theorem zkn (c:UInt8) (s:ByteArray) (w:World) (hm:zfu w) (hs:s.size≤1000000) (k:Nat) (ho:zdp c s.data.toList=some k):Calls Tryz.prog 79 #[.string s,.string ⟨#[c]⟩] w (yel s k 1 w):=by
 obtain ⟨m,hm⟩:=hm
 refine (Tryz.strings_Cut s ⟨#[c]⟩ m w (by omega) hm).mono ?_
 rintro e w' ⟨rfl,n,rfl⟩
 have hl:=zm3 ho
 rw [show s.data.toList.length=s.size from rfl] at hl
 refine ⟨⟨(s.data.toList.take k).toArray⟩,⟨(s.data.toList.drop (k+1)).toArray⟩,?_,?_,?_,Lib.hid rfl,Lib.hid rfl,below_drewN' w n⟩
 ·rw [show (ByteArray.mk #[c]).data.toList=[c] from rfl,zzx,ho]
 ·rw [zug,List.length_take,show s.data.toList.length=s.size from rfl];omega
 ·rw [zug,List.length_drop,show s.data.toList.length=s.size from rfl];omega
attribute [local go_sem] Oper.semAt_some
set_option maxRecDepth 100000 in
theorem zyg (n:Nat) (hn:1≤n) (s:ByteArray) (hs:s.size≤10000) (Bn:Nat) (w:World) (hbox:Boxed w Bn 9 (.string s)) (hmax:zfu w) :
 SeqStopsK Fence.wide n Tryz.prog 171 #[.pointer (some ⟨Bn,0,none⟩)] (fun p:zb8=>#[.string p.1.1,.int .i64 p.1.2]) (zez Bn 0)
  (fun xs=>xs.map zb8.pair=itL s.data.toList 0) (fun xs=>∃ r,xs.map zb8.pair++r=itL s.data.toList 0) (s.size+1) w:=fun l J Jx W hW hJ hJx hY h0=>by
 have hbx0:Boxed W Bn 9 (.string s):=(hW.block _ hbox.lt).trans hbox
 have hm0:zfu W:=hmax.below hW
 have hc0:=hbx0.cell
 have HX:=Lib.hid hbx0;clear hbx0
 refine callsIn_of_wp Tryz.func171 rfl trivial ?_ rfl
 simp only [Tryz.ntmps171,List.size_toArray,List.length_cons,List.length_nil,Nat.reduceAdd,Nat.reduceSub,Array.replicate_succ,Array.replicate_zero,List.push_toArray,List.append_toArray,List.nil_append,List.cons_append]
 gi_wp2
 gi_loopw [3,4,5,6,7] (fun v _ _ _ _ wr=>∃ (k:Nat) (pre:List zb8),v=.int .i64 k∧k≤s.size∧pre.length≤k∧Hid (pre.map zb8.pair++itL (s.data.toList.drop k) k=itL s.data.toList 0)∧Hid (J pre wr)∧Hid (Boxed wr Bn 9 (.string s))∧Hid (zfu wr))
  (fun v _ _ _ _ _=>s.size+1 - (intOf v).toNat)
 case atStart=>exact ⟨0,[],rfl,Nat.zero_le _,Nat.le_refl _,Lib.hid rfl,Lib.hid h0,HX,Lib.hid hm0⟩
 case round =>
  obtain ⟨k,pre,rfl,hk,hpl,hpre,hJs,hbx,hmx⟩:=hrel
  replace hJs:=hJs.out
  replace hbx:=hbx.out
  have hc2:=hbx.cell
  have hbl:=hbx.lt
  have hsx:(s.extract k s.size).data.toList=s.data.toList.drop k:=by rw [Lib.extract_data,List.take_of_length_le (by rw [List.length_drop];exact Nat.le_refl _)]
  have hsz:(s.extract k s.size).size=s.size - k:=by rw [ByteArray.size_extract];omega
  rcases ho:crAt (s.data.toList.drop k) with _ | j
  ·have HO:=Lib.hid (show crAt (s.extract k s.size).data.toList=none by rw [hsx];exact ho)
   have HE:=Lib.hid (show pre.map zb8.pair=itL s.data.toList 0 by rw [← hpre.out,zex ho,List.append_nil])
   clear ho hsx
   gi_wp2_with (refine ⟨trivial,?_⟩;gi_at_call 79;refine (callsIn_wide.2 (zye _ _ hmx.out (by omega) HO.out)).mono ?_;rintro e w1 ⟨rfl,hb1⟩)
   refine bodyPost_ret (results_none rfl _ _ _) rfl ?_
   exact ⟨⟨_,rfl⟩,.inl ⟨pre,HE.out,zoo hJ hJs hb1⟩⟩
  ·have hlt:=zgw ho
   rw [List.length_drop,show s.data.toList.length=s.size from rfl] at hlt
   have HO:=Lib.hid (show crAt (s.extract k s.size).data.toList=some j by rw [hsx];exact ho)
   have hit:=zg9 (a:=k) ho
   rw [List.drop_drop] at hit
   have HIT:=Lib.hid hit
   have HSX:=Lib.hid hsx
   clear ho hsx hit
   gi_wp2_with (refine ⟨trivial,?_⟩;gi_at_call 79;refine (callsIn_wide.2 (zwn _ _ hmx.out (by omega) j HO.out)).mono ?_;rintro e w1 ⟨a,b,rfl,haj,hbs,hal,_,hb1⟩;have hJ1:=zoo hJ hJs hb1;have hbx1:=(hb1.block _ hbl).trans hbx;have hmx1:=hmx.out.below hb1;have hc1:=Boxed.cell hbx1;have haL:=Lib.hid haj;have ha1:a.size+2≤s.size - k:=(by omega);clear haj;obtain ⟨fn,tmps,assign,body,hy,hR⟩:=hY pre ⟨(a,k+(a.size+2)),by constructor<;>dsimp only<;>omega⟩ w1 hJ1 (by omega);dsimp only at hy;rw [show ((k+(a.size+2):Nat):Int)=(k:Int)+((a.size:Int)+2) by omega] at hy)
   have hpair:zb8.pair ⟨(a,k+(a.size+2)),by constructor<;>dsimp only<;>omega⟩=((s.data.toList.drop k).take j,k+j+2):=by
    unfold zb8.pair;dsimp only;rw [hal.out,HSX.out,haL.out,Nat.add_assoc]
   have HP:=Lib.hid hpair;clear hpair
   refine hR.mono ?_
   rintro e W3 (⟨rfl,hJ3,hk3⟩ | ⟨rfl,hx3⟩)
   ·have hbx3:Boxed W3 Bn 9 (.string s):=Eq.trans hk3.1 hbx1
    have hmx3:=hmx1.kept hk3.2
    rcases Nat.eq_zero_or_pos j with hj | hj
    ·have hae:a.toList=[]:=by
      rw [Lib.toList_data];exact qz (haL.out.trans hj)
     have HF:=Lib.hid (show (pre++[(⟨(a,k+(a.size+2)),by constructor<;>dsimp only<;>omega⟩:zb8)]).map zb8.pair=itL s.data.toList 0 by
      rw [List.map_append,List.map_singleton,HP.out,← hpre.out,HIT.out,if_pos hj])
     gi_wp2
     refine bodyPost_ret (results_none rfl _ _ _) rfl ?_
     exact ⟨⟨_,rfl⟩,.inl ⟨_,HF.out,hJ3⟩⟩
    ·have e1:a.toList=[] ↔ False:=by
      rw [Lib.toList_data]
      exact iff_of_false (fun h=>by have:=haL.out;have h2:a.size=0:=congrArg List.length h;omega) id
     have e2:a.toList.isEmpty=false:=by
      rw [Lib.toList_data]
      cases h:a.data.toList with
      | nil=>have:=haL.out;have h2:a.size=0:=congrArg List.length h;omega
      | cons _ _=>rfl
     have HF:=Lib.hid (show (pre++[(⟨(a,k+(a.size+2)),by constructor<;>dsimp only<;>omega⟩:zb8)]).map zb8.pair++itL (s.data.toList.drop (k+(a.size+2))) (k+(a.size+2))=itL s.data.toList 0 by
      rw [List.map_append,List.map_singleton,HP.out,← hpre.out,HIT.out,if_neg (by omega),haL.out,List.append_assoc];rfl)
     gi_wp2
     go_roundw
     case rel=>exact ⟨k+(a.size+2),_,by go_num,by omega,by simp;omega,HF,Lib.hid hJ3,Lib.hid hbx3,Lib.hid hmx3⟩
     case measure=>simp [intOf];omega
   ·have HF:=Lib.hid (show (pre++[(⟨(a,k+(a.size+2)),by constructor<;>dsimp only<;>omega⟩:zb8)]).map zb8.pair++(if j=0 then [] else itL (s.data.toList.drop (k+(j+2))) (k+j+2))=itL s.data.toList 0 by
     rw [List.map_append,List.map_singleton,HP.out,← hpre.out,HIT.out,List.append_assoc];rfl)
    gi_wp2
    refine bodyPost_ret (results_none rfl _ _ _) rfl ?_
    exact ⟨⟨_,rfl⟩,.inr ⟨_,⟨_,HF.out⟩,hx3⟩⟩
end Go.Proofs.YtmpiobfdchlikaaGreatDoor
end
section
namespace Nun
open Go Go.RowKit
def zai (l:List Fld):List Value:=l.flatMap fun p=>[.string ⟨p.1.toArray⟩,.string ⟨p.2.toArray⟩]
theorem zb5 (l:List Fld):(zai l).length=l.length * 2:=by
 induction l with
 | nil=>rfl
 | cons p l ih=>show (([.string ⟨p.1.toArray⟩,.string ⟨p.2.toArray⟩]:List Value)++zai l).length=_;rw [List.length_append,ih];simp;omega
theorem zcp (l:List Fld) (p:Fld):zai (l++[p])=zai l++[.string ⟨p.1.toArray⟩,.string ⟨p.2.toArray⟩]:=by simp [zai]
def zwo (pre:List zb8):List (List UInt8):=pre.map fun x=>x.1.1.data.toList
def stOf (pre:List zb8):List Fld × Bool:=(zck (zwo pre) ([],false)).getD ([],false)
def zoz (pre:List zb8):Prop:=zck (zwo pre) ([],false)=some (stOf pre)∧∀ x∈pre,x.1.1.data.toList≠[]
theorem ycy:zoz []:=⟨rfl,by simp⟩
theorem zwp {pre:List zb8} {x:zb8} {st:List Fld × Bool} (h:zoz pre) (hx:x.1.1.data.toList≠[]) (hs:za6 (stOf pre) x.1.1.data.toList=some st):zoz (pre++[x])∧stOf (pre++[x])=st:=by
 have e:zck (zwo (pre++[x])) ([],false)=some st:=by
  unfold zwo;rw [List.map_append,List.map_singleton,zqy]
  show (zck (zwo pre) ([],false)).bind _=_
  rw [h.1];exact hs
 refine ⟨⟨by unfold stOf;rw [e];rfl,?_⟩,by unfold stOf;rw [e];rfl⟩
 intro y hy
 rcases List.mem_append.1 hy with hy | hy
 ·exact h.2 y hy
 ·rw [List.mem_singleton.1 hy];exact hx
theorem zuj {pre:List zb8} (h:zoz pre) (r:List (List UInt8 × Nat)):zb6 (pre.map zb8.pair++r) ([],false)=zb6 r (stOf pre):=by
 refine zqz _ _ _ _ ?_ ?_
 ·intro x hx
  obtain ⟨y,hy,rfl⟩:=List.mem_map.1 hx
  exact h.2 y hy
 ·rw [List.map_map];exact h.1
theorem zlb {st:List Fld × Bool} {l:List UInt8} (h:l.all zd6=false):za6 st l=none:=by unfold za6;rw [if_pos h]
theorem zlq {st:List Fld × Bool} {l:List UInt8} (hb:(l.head?.map zal).getD false=true) (h:st.1=[]):za6 st l=none:=by
 by_cases hs:l.all zd6=false
 ·exact zlb hs
 ·unfold za6;rw [if_neg hs,if_pos hb,h];rfl
theorem zs2 {st:List Fld × Bool} {l:List UInt8} {F:List Fld} {q:Fld} (hs:l.all zd6=true) (hb:(l.head?.map zal).getD false=true) (h:st.1=F++[q]) :
 za6 st l=some (F++[(q.1,q.2++l)],st.2 || decide (998<l.length)):=by
 unfold za6
 rw [if_neg (by simp [hs]),if_pos hb,h,List.getLast?_concat];simp
theorem zop {st:List Fld × Bool} {l:List UInt8} (hb:(l.head?.map zal).getD false=false) (h:zdp 58 l=none):za6 st l=none:=by
 by_cases hs:l.all zd6=false
 ·exact zlb hs
 ·unfold za6;rw [if_neg hs,if_neg (by simp [hb]),h]
theorem zrd {st:List Fld × Bool} {l:List UInt8} {k:Nat} (hb:(l.head?.map zal).getD false=false) (h:zdp 58 l=some k) (hn:zgv (l.take k)=false):za6 st l=none:=by
 by_cases hs:l.all zd6=false
 ·exact zlb hs
 ·unfold za6;rw [if_neg hs,if_neg (by simp [hb]),h];simp [hn]
theorem zs3 {st:List Fld × Bool} {l:List UInt8} {k:Nat} (hs:l.all zd6=true) (hb:(l.head?.map zal).getD false=false) (h:zdp 58 l=some k) (hn:zgv (l.take k)=true) :
 za6 st l=some (st.1++[(l.take k,l.drop (k+1))],st.2 || decide (998<l.length)):=by
 unfold za6
 rw [if_neg (by simp [hs]),if_neg (by simp [hb]),h];simp [hn]
theorem ycz {st st':List Fld × Bool} {l:List UInt8} (h:za6 st l=some st'):st'.1.length≤st.1.length+1:=by
 unfold za6 at h
 split at h
 ·cases h
 ·split at h
  ·split at h
   ·cases h
   ·cases h;simp
  ·split at h
   ·cases h
   ·split at h
    ·cases h;simp
    ·cases h
theorem zko:∀ (ls:List (List UInt8)) (st st':List Fld × Bool),zck ls st=some st'→st'.1.length≤st.1.length+ls.length
 | [],st,st',h=>by simp [zck] at h;rw [h];simp
 | l::ls,st,st',h=>by
   rw [zck,List.foldlM_cons] at h
   obtain ⟨s1,h1,h2⟩:=qb h
   have:=ycz h1
   have:=zko ls s1 st' h2
   rw [List.length_cons];omega
theorem z69 {st st':List Fld × Bool} {l:List UInt8} {C:Nat} (h:za6 st l=some st') (hC:∀ f∈st.1,f.2.length≤C):∀ f∈st'.1,f.2.length≤C+l.length:=by
 unfold za6 at h
 split at h
 ·cases h
 ·split at h
  ·split at h
   ·cases h
   ·rename_i q hq
    cases h
    intro f hf
    rcases List.mem_append.1 hf with hf | hf
    ·have:=hC f ((List.dropLast_sublist _).subset hf);omega
    ·rw [List.mem_singleton.1 hf,List.length_append]
     have:=hC q (List.mem_of_getLast? hq);omega
  ·split at h
   ·cases h
   ·split at h
    ·cases h
     intro f hf
     rcases List.mem_append.1 hf with hf | hf
     ·have:=hC f hf;omega
     ·rw [List.mem_singleton.1 hf,List.length_drop];omega
    ·cases h
theorem zlc:∀ (ls:List (List UInt8)) (st st':List Fld × Bool) (C M:Nat),zck ls st=some st'→(∀ f∈st.1,f.2.length≤C)→(∀ l∈ls,l.length≤M)→∀ f∈st'.1,f.2.length≤C+M * ls.length
 | [],st,st',C,M,h,hC,_=>by simp [zck] at h;rw [← h];simpa using hC
 | l::ls,st,st',C,M,h,hC,hM=>by
   rw [zck,List.foldlM_cons] at h
   obtain ⟨s1,h1,h2⟩:=qb h
   have a:=z69 h1 hC
   have hl:=hM l (by simp)
   have:=zlc ls s1 st' (C+M) M h2 (fun f hf=>by have:=a f hf;omega) (fun x hx=>hM x (by simp [hx]))
   intro f hf
   have:=this f hf
   rw [List.length_cons,Nat.mul_succ];omega
theorem zwq {pre:List zb8} (h:zoz pre):∀ f∈(stOf pre).1,f.2.length≤10000 * pre.length:=by
 have:=zlc _ _ _ 0 10000 h.1 (by simp) (by
  intro l hl
  unfold zwo at hl
  obtain ⟨x,_,rfl⟩:=List.mem_map.1 hl
  exact x.2.1)
 simpa [zwo] using this
theorem zuk {pre:List zb8} (h:zoz pre):(stOf pre).1.length≤pre.length:=by
 have:=zko _ _ _ h.1
 simpa [zwo] using this
theorem zs4 (p:ByteArray) (h:0<p.size):(p.data.toList.head?.map zal).getD false=zal p[0]:=by
 rw [List.head?_eq_getElem?,qe (show 0<p.data.toList.length from h)];rfl
theorem z7a:∀ c:UInt8,zal c=true→((c.toNat:Int) == 32)=true∨((c.toNat:Int) == 32)=false∧((c.toNat:Int) == 9)=true:=by decide +kernel
theorem yc0:∀ c:UInt8,zal c=false→((c.toNat:Int) == 32)=false∧((c.toNat:Int) == 9)=false:=by decide +kernel
theorem zre {W:World} {B t e base size n:Nat} {u v:Value} {xs:List Value} (h:Boxed W B t u) (hte:t≠e) (hr:W.ownsRow base e size v n xs) (u':Value):(W.setCell ⟨B,0,none⟩ u').ownsRow base e size v n xs :=
 hr.kept (grownBy_setCell' W B u') (.inr (h.not_row hte hr).symm)
theorem zoq {b c B:Nat} {W:World} (hb:b≠B) (hc:c≠B) (u:Value) (o:Nat):zez b c W (W.setCell ⟨B,o,none⟩ u) :=
 ⟨Below.heap_setCell _ _ _ _ (by simpa using hb),Below.heap_setCell _ _ _ _ (by simpa using hc)⟩
theorem own_below {w w':World} {B e size n:Nat} {v:Value} {xs:List Value} (h:w.ownsRow B e size v n xs) (k:Below w.heap.size w w'):w'.ownsRow B e size v n xs :=
 World.ownsRow.kept (row:=none) h ⟨k.os,k.tape,k.output,k.size,fun i hi _=>k.block i hi⟩ (by cases v.ownBlock<;>simp)
theorem cell_two_new (w:World) (x y:Value) (t:TypeId):∀ (j:Nat) u,[x,y][j]? =some u→(w.alloc (.cells #[x,y] t)).cell? ((⟨w.heap.size,0,none⟩:Addr).add j)=some u:=by
 intro j u hj
 match j,hj with
 | 0,hj=>simp at hj;subst hj;simp [Addr.add]
 | 1,hj=>simp at hj;subst hj;simp [Addr.add]
theorem zhd {w:World} {B:Nat} {e size:Nat} {v:Value} {n:Nat} {xs:List Value} (h:w.ownsRow B e size v n xs):(v=.slice none 0 0∧n=0)∨∃ g cap,v=.slice (some ⟨g,0,none⟩) n cap∧B≤g∧g<w.heap.size∧n≤cap:=by
 rcases h.2 with h0 | ⟨g,cap,cur,rfl,hb,hh,hc,_⟩
 ·exact .inl h0
 ·exact .inr ⟨g,cap,rfl,hb,(Array.getElem?_eq_some_iff.1 hh).1,hc⟩
end Nun
namespace Go.Proofs.YtmpiobfdchlikaaGreatDoor
open Go Go.RowKit Nun
theorem zpk (s:ByteArray) (b:Bool) (h:s.data.toList.all zd6=b) (w:World) (hs:s.size≤maxLen):Calls Tryz.prog 122 #[.string s] w (Same (.bool b) w):=h ▸ z65 s w hs
theorem zul (s:ByteArray) (b:Bool) (h:zgv s.data.toList=b) (w:World) (hs:s.size≤maxLen):Calls Tryz.prog 123 #[.string s] w (Same (.bool b) w):=h ▸ zwg s w hs
attribute [local go_sem] Oper.semAt_some
theorem z7b (s:ByteArray) (w:World):Calls Tryz.prog 121 #[.string s] w fun e w'=>e=.returned (.func (.func 171) #[] #[.pointer (some ⟨w.heap.size,0,none⟩)])∧w'=w.alloc (.cells #[.string s] 9):=by
 go_enter Tryz.func121,Tryz.ntmps121
 go_wp2
 go_ret
 exact ⟨rfl,rfl⟩
def splitV:Split→World→Ending→World→Prop
 | .form,w,e,w'=>e=.returned (.tuple #[.slice none 0 0,.int .i64 0,.int .i64 7])∧Below w.heap.size w w'
 | .long,w,e,w'=>e=.returned (.tuple #[.slice none 0 0,.int .i64 0,.int .i64 6])∧Below w.heap.size w w'
 | .ok l b,w,e,w'=>∃ v,e=.returned (.tuple #[v,.int .i64 b,.int .i64 0])∧w'.ownsRow w.heap.size 80 2 v l.length (zai l)∧Below w.heap.size w w'
def Mid (n0:Nat) (w:World) (s:ByteArray) (pre:List zb8) (W:World):Prop :=
 (((∃ v,Boxed W n0 45 v∧W.ownsRow n0 80 2 v (stOf pre).1.length (zai (stOf pre).1)∧True)∧Boxed W (n0+1) 3 (.int .i64 0)∧Boxed W (n0+1+1) 26 (.int .i64 (if (stOf pre).2 then 6 else 0))∧Boxed W (n0+1+1+1) 9 (.string s))∧zoz pre)∧Below n0 w W
def Out (n0:Nat) (w:World) (c:Code) (pre:List zb8) (W:World):Prop :=
 (((Boxed W n0 45 (.slice none 0 0)∧Boxed W (n0+1) 3 (.int .i64 0)∧Boxed W (n0+1+1) 26 (.int .i64 7))∧(c=.ret∧∃ pre0 x,pre=pre0++[x]∧zoz pre0∧x.1.1.data.toList≠[]∧za6 (stOf pre0) x.1.1.data.toList=none))∧Below n0 w W) ∨
 (((∃ v,Boxed W n0 45 v∧W.ownsRow n0 80 2 v (stOf pre.dropLast).1.length (zai (stOf pre.dropLast).1)∧True)∧Boxed W (n0+1) 3 (.int .i64 ((pre.getLast?.map fun x=>x.1.2).getD 0:Nat))∧Boxed W (n0+1+1) 26 (.int .i64 (if (stOf pre.dropLast).2 then 6 else 0)))∧(c=.exit 0∧∃ pre0 x,pre=pre0++[x]∧zoz pre0∧x.1.1.data.toList=[]))∧Below n0 w W
theorem OwnFrom.or {β:Type} {B:Nat} {I J:β→World→Prop} (h:OwnFrom B I) (k:OwnFrom B J):OwnFrom B (fun s W=>I s W∨J s W):=fun s W W' row hs hg hr=>hs.elim (fun a=>.inl (h s W W' row a hg hr)) (fun a=>.inr (k s W W' row a hg hr))
theorem yi6 (n0:Nat) (w:World) (s:ByteArray) (B:Nat) (hn:n0≤w.heap.size) (hB:n0≤B):OwnFrom B (Mid n0 w s) :=
 OwnFrom.and (OwnFrom.and (OwnFrom.and (Own.from (holdsRow_own n0 n0 45 80 2 (fun pre:List zb8=>(stOf pre).1.length) (fun pre=>zai (stOf pre).1) (fun _ _=>True)) _) (OwnFrom.and (Own.from (boxed_own _ _ _) _) (OwnFrom.and (Own.from (boxed_own _ _ _) _) (Own.from (boxed_own _ _ _) _)))) (ownFrom_pure _ _)) (ownFrom_below hn hB)
theorem yi7 (n0:Nat) (w:World) (c:Code) (B:Nat) (hn:n0≤w.heap.size) (hB:n0≤B):OwnFrom B (Out n0 w c) :=
 OwnFrom.or (OwnFrom.and (OwnFrom.and (OwnFrom.and (Own.from (boxed_own _ _ _) _) (OwnFrom.and (Own.from (boxed_own _ _ _) _) (Own.from (boxed_own _ _ _) _))) (ownFrom_pure _ _)) (ownFrom_below hn hB))
  (OwnFrom.and (OwnFrom.and (OwnFrom.and (Own.from (holdsRow_own n0 n0 45 80 2 (fun pre:List zb8=>(stOf pre.dropLast).1.length) (fun pre=>zai (stOf pre.dropLast).1) (fun _ _=>True)) _) (OwnFrom.and (Own.from (boxed_own _ _ _) _) (Own.from (boxed_own _ _ _) _))) (ownFrom_pure _ _)) (ownFrom_below hn hB))
end Go.Proofs.YtmpiobfdchlikaaGreatDoor
end
section
namespace Nun
open Go Go.Sort Go.RowKit
section
variable {P:Program} {ops:Array Oper} {md:Region.Mode} {C:World→Prop}
def z7c (P:Program) (md:Region.Mode) (ops:Array Oper) (C:World→Prop) (n:Nat) (L:Array Bool→Act→Prop):Nat→Array Bool→Act→Prop
 | 0,listed,a=>L listed a
 | f+1,listed,a =>
   Region.ready md ops listed≠[]∧∀ i∈Region.ready md ops listed,i<n∧qOp P ops C i (z7c P md ops C n L f (listed.setIfInBounds i true)) a
theorem zor {n g:Nat} {L:Array Bool→Act→Prop} {Q':Exit→Act→World→Prop} (hL:∀ listed a w,C w→L listed a→wpAny P md ops Q' g listed a w) :
 ∀ (f:Nat) (listed:Array Bool) (a:Act) (w:World),C w→z7c P md ops C n L f listed a→wpAny P md ops Q' (f+g) listed a w
 | 0,listed,a,w,hw,h=>by rw [Nat.zero_add];exact hL _ _ _ hw h
 | f+1,listed,a,w,hw,h=>by
   rw [show f+1+g=(f+g)+1 by omega]
   exact ⟨fun h0=>absurd h0 h.1,fun i hi=>wpOp_of_qOp hw (fun a' w' hw' h'=>zor hL f _ a' w' hw' h') (h.2 i hi).2⟩
theorem zyh {n i:Nat} {oi:Oper} {v:Value} {L:Array Bool→Act→Prop} (hi:ops[i]? =some oi) (hsel:∀ (j:Nat) (o:Oper) cs b,ops[j]? =some o→o.op≠.select cs b)
 (hs:Region.sinkB md ops n=true) (hc:Region.chainB md ops n=true) (hn:n<ops.size) (hin:i<n)
 (hdone:∀ listed a,L listed a→∀ j∈Region.ready md ops listed,n≤j) :
 ∀ (f:Nat) (listed:Array Bool) (a:Act),HeadInv md ops n listed →
   (∀ j oj,ops[j]? =some oj→j≠i→listed.getD j true=false→(∀ e∈oj.after,Region.binds md e=true→e.on≠i)→oi.apart ops oj=true) →
   i∈Region.ready md ops listed→YieldsIn P ops C oi v a →
   z7c P md ops C n L f (listed.setIfInBounds i true) (a.put oi.dst v)→z7c P md ops C n L (f+1) listed a:=by
 intro f
 induction f with
 | zero =>
   intro listed a inv _ hr hy H
   have hun:=(mem_ready.1 hr).1
   refine ⟨fun h=>(by rw [h] at hr;cases hr),fun j hj=>?_⟩
   have hjn:j<n:=by
    rcases Nat.lt_or_ge j n with h | h
    ·exact h
    ·exact absurd hj (tail_waits hs hc hn inv _ i rfl hin hun j h)
   refine ⟨hjn,?_⟩
   by_cases hji:j=i
   ·subst hji;exact hy.qOp hi H
   ·have:=hdone _ _ H j (ready_mono hj hji)
    omega
 | succ f ih =>
   intro listed a inv hfree hr hy H
   have hun:=(mem_ready.1 hr).1
   refine ⟨fun h=>(by rw [h] at hr;cases hr),fun j hj=>?_⟩
   have hjn:j<n:=by
    rcases Nat.lt_or_ge j n with h | h
    ·exact h
    ·exact absurd hj (tail_waits hs hc hn inv _ i rfl hin hun j h)
   refine ⟨hjn,?_⟩
   by_cases hji:j=i
   ·subst hji;exact hy.qOp hi H
   ·have h1:=(H.2 j (ready_mono hj hji)).2
    obtain ⟨hjun,oj,hoj,hall⟩:=mem_ready.1 hj
    have hnot:∀ e∈oj.after,Region.binds md e=true→e.on≠i:=fun e he hb heq=>by
     have h1:=hall e he hb
     rw [heq,getD_both hun] at h1
     cases h1
    have h2:=qOp_put hoj (hfree j oj hoj hji hjun hnot) (fun cs b=>hsel i oi cs b hi) (fun cs b=>hsel j oj cs b hoj) hy h1
    have hfree':∀ k ok,ops[k]? =some ok→k≠i→(listed.setIfInBounds j true).getD k true=false →
     (∀ e∈ok.after,Region.binds md e=true→e.on≠i)→oi.apart ops ok=true:=fun k ok hk hki hun hno=>by
     refine hfree k ok hk hki ?_ hno
     by_cases hjk:j=k
     ·subst hjk;exact hjun
     ·rw [getD_set_ne true hjk] at hun;exact hun
    refine qOp_mono (fun a' h3=>ih (listed.setIfInBounds j true) a' (inv.set hj hjn) hfree' (ready_mono hr (Ne.symm hji)) h3.1 ?_) h2
    rw [Array.setIfInBounds_comm _ _ hji]
    exact h3.2
theorem zwr {n g:Nat} {Lq:Act→Prop} (hsel:Region.noSelect ops=true) (hs:Region.sinkB md ops n=true) (hc:Region.chainB md ops n=true) (hn:n<ops.size) :
 ∀ (l:List Oper) (k:Nat) (listed:Array Bool) (a:Act),(∀ j,j<l.length→l[j]? =ops[k+j]?)→k+l.length=n→HeadInv md ops n listed →
 Region.lexHead md ops g l.length k listed=true→wpQuiet P ops C Lq l a →
 z7c P md ops C n (fun listed' a'=>Region.seqB md ops g n listed'=true∧Lq a') l.length listed a
 | [],k,listed,a,_,hk,_,hB,h=>by
   have:k=n:=by simpa using hk
   subst this
   exact ⟨by simpa [Region.lexHead] using hB,h⟩
 | o::l,k,listed,a,hl,hk,inv,hB,h=>by
   have h0:ops[k]? =some o:=by simpa using (hl 0 (by simp)).symm
   simp only [List.length_cons,Region.lexHead,Bool.and_eq_true] at hB
   obtain ⟨⟨hr,hf⟩,hB'⟩:=hB
   have hkn:k<n:=by simp only [List.length_cons] at hk;omega
   have hr':k∈Region.ready md ops listed:=by simpa using hr
   have hst:qOp P ops C k (wpQuiet P ops C Lq l) a:=by unfold qOp;simp only [h0];exact h
   obtain ⟨v,hy,hK⟩:=yieldsIn_of_qOp h0 hst
   exact zyh h0 (Region.noSelect_spec hsel) hs hc hn hkn (fun listed' a' hL=>seqB_ready hL.1) l.length listed a inv (Region.free_spec h0 hf) hr' hy
    (zwr hsel hs hc hn l (k+1) _ _ (fun j hj=>by have:=hl (j+1) (by simp;omega);simpa [Nat.add_assoc,Nat.add_comm 1 j] using this) (by simp only [List.length_cons] at hk;omega) (inv.set hr' hkn) hB' hK)
theorem zn0 {id:Nat} {Q:Exit→Act→World→Prop} {a:Act} {w:World} {l:List Oper} (n:Nat) (hm:P.follows .mixedOrders=true) (hB:Region.lexTailB .any l.toArray n=true)
 (hC:C { w with drawn:=w.drawn+1 })
 (h:wpQuiet P l.toArray C (fun a'=>∀ w',C w'→wpList P l.toArray Q (l.drop n) a' w') (l.take n) a):(Code.region id l.toArray true).wp P Q a w:=by
 simp only [Region.lexTailB,Bool.and_eq_true,decide_eq_true_eq] at hB
 obtain ⟨⟨⟨⟨hsel,hn⟩,hs⟩,hc⟩,hlex⟩:=hB
 have hn':n<l.length:=by simpa using hn
 have htl:(l.take n).length=n:=by simp;omega
 have hdl:(l.drop n).length=l.toArray.size - n:=by simp
 have inv0:HeadInv .any l.toArray n (Array.replicate l.toArray.size false) :=
  ⟨by simp,fun j oj _ hl=>(by rw [getD_replicate_false] at hl;cases hl),fun t _ ht=>getD_in (by simpa using ht) (getD_replicate_false _ _)⟩
 have H:=zwr (md:=.any) (g:=l.toArray.size - n) hsel hs hc hn (l.take n) 0 _ a (fun j hj=>by
  have hj':j<n:=by rw [htl] at hj;exact hj
  simp [hj']) (by simpa using htl) inv0 (by rw [htl];exact hlex) h
 refine wp_region_any hm ?_
 have:=zor (Q':=Q) (g:=l.toArray.size - n) (fun listed a' w' hw' hL=>by
  have:=wpAny_of_seq (md:=.any) (Q':=Q) (l.drop n) n listed a' w' (fun j=>by simp [List.getElem?_drop]) (by rw [hdl];exact hL.1) (hL.2 w' hw')
  rwa [hdl] at this) _ _ _ _ hC H
 rw [htl,show n+(l.toArray.size - n)=l.toArray.size by omega] at this
 exact this
theorem zfv {id:Nat} {Q:Exit→Act→World→Prop} {a:Act} {w:World} {l:List Oper} (n:Nat) (hm:P.follows .mixedOrders=true) (hB:Region.lexTailB .any l.toArray n=true)
 (h:wpQuiet P l.toArray (fun w'=>∃ p:Regrown,w'=grow (redrawn w p.d) p.os) (fun a'=>∀ w',Below w.heap.size w w'→wpList P l.toArray Q (l.drop n) a' w') (l.take n) a):(Code.region id l.toArray true).wp P Q a w :=
 zn0 (C:=fun w'=>∃ p:Regrown,w'=grow (redrawn w p.d) p.os) n hm hB ⟨⟨w.drawn+1,#[]⟩,by rw [grow_empty];rfl⟩ (by
  have mono:∀ (l':List Oper) (a:Act),wpQuiet P l.toArray (fun w'=>∃ p:Regrown,w'=grow (redrawn w p.d) p.os) (fun a'=>∀ w',Below w.heap.size w w'→wpList P l.toArray Q (l.drop n) a' w') l' a →
   wpQuiet P l.toArray (fun w'=>∃ p:Regrown,w'=grow (redrawn w p.d) p.os) (fun a'=>∀ w',(∃ p:Regrown,w'=grow (redrawn w p.d) p.os)→wpList P l.toArray Q (l.drop n) a' w') l' a:=by
   intro l'
   induction l' with
   | nil=>intro a h w' ⟨p,hp⟩;exact h w' (hp ▸ below_regrown w p.d p.os)
   | cons o l' ih =>
     intro a h
     unfold wpQuiet at h ⊢
     split
     ·rename_i hw;rw [if_pos hw] at h;exact Oper.quiet_mono (fun a' h'=>ih a' h') h
     ·rename_i hw;rw [if_neg hw] at h;exact ih _ h
  exact mono _ _ h)
end
end Nun
end

/- LetterNests answers true for all numbers and flags, at any start: texts of this proof, merged. -/
import Derived.Test.YtmpiobfdchlikaaGreatDoorNj
import Derived.IntWalk
import Derived.Deep.RegionHeld3
import Derived.Deep.AppendLies
import Derived.StillTactics
import Derived.OwnWalk
import Derived.Test.YtmpiobfdchlikaaGreatDoorRows
import Derived.LaidMore
import Derived.ProofKit
import Derived.OpenShut
import Derived.Stop.Joined
import Derived.Handed
import Derived.HandedShaped
import Derived.Lib.LaidU8
import Derived.Shelf.Vars
import Derived.KernelRfl
import Derived.Test.YtmpiobfdchlikaaGreatDoorTie
import Derived.Test.YtmpiobfdchlikaaGreatDoorCards
import Derived.SevenTiedAt
set_option linter.unusedVariables false
set_option linter.unusedSimpArgs false
set_option maxHeartbeats 4000000
section
set_option synthInstance.maxSize 4000
namespace Nun
open Go Go.RowKit
theorem yjy {st st':List Fld × Bool} {l:List UInt8} (h:za6 st l=some st'):st'.1≠[]:=by
 unfold za6 at h
 split at h
 ·cases h
 ·split at h
  ·split at h
   ·cases h
   ·cases h;simp
  ·split at h
   ·cases h
   ·split at h
    ·cases h;simp
    ·cases h
theorem z0o:∀ (ls:List (List UInt8)) (st st':List Fld × Bool),zck ls st=some st'→ls≠[]→st'.1≠[]
 | [],st,st',_,h=>absurd rfl h
 | [l],st,st',h,_=>by
   rw [zck,List.foldlM_cons] at h
   obtain ⟨s1,h1,h2⟩:=qb h
   simp at h2;rw [← h2];exact yjy h1
 | l::m::ls,st,st',h,_=>by
   rw [zck,List.foldlM_cons] at h
   obtain ⟨s1,h1,h2⟩:=qb h
   exact z0o (m::ls) s1 st' h2 (by simp)
theorem zn6 (ls:List (List UInt8)) (k:Nat) (st0 st:List Fld × Bool) (hk:k<ls.length) (h:zck (ls.take k) st0=some st):zck (ls.take (k+1)) st0=za6 st ls[k]:=by
 rw [List.take_succ_eq_append_getElem hk,zqy,h];rfl
theorem z8o (ls:List (List UInt8)) (k:Nat) (st0 st:List Fld × Bool) (hk:k<ls.length) (h:zck (ls.take k) st0=some st) (hb:za6 st ls[k]=none):zck ls st0=none:=by
 have h1:=zn6 ls k st0 st hk h
 rw [hb] at h1
 have:ls=ls.take (k+1)++ls.drop (k+1):=(List.take_append_drop _ _).symm
 rw [this];unfold zck at h1 ⊢
 rw [List.foldlM_append,h1];rfl
theorem ydr {w:World} {B e g cap m:Nat} {F0:List Fld} {q:Fld} {p:ByteArray} (hrow:w.ownsRow B e 2 (.slice (some ⟨g,0,none⟩) (m+1) cap) (m+1) (zai F0++[.string ⟨q.1.toArray⟩,.string ⟨q.2.toArray⟩])) (hm:F0.length=m) :
 (w.setCell ⟨g,m * 2+1,none⟩ (.string (⟨q.2.toArray⟩++p))).ownsRow B e 2 (.slice (some ⟨g,0,none⟩) (m+1) cap) (F0++[(q.1,q.2++p.data.toList)]).length (zai (F0++[(q.1,q.2++p.data.toList)])):=by
 have:=(hrow.stored (m * 2+1) (.string (⟨q.2.toArray⟩++p))).1
 rw [zcp]
 dsimp only
 rw [List.length_append,hm,List.length_singleton]
 rw [List.set_append_right _ _ (by rw [zb5];omega),zb5,hm,show m * 2+1 - m * 2=1 by omega] at this
 have e:(ByteArray.mk q.2.toArray++p)=⟨(q.2++p.data.toList).toArray⟩:=by
  apply ByteArray.ext;apply Array.ext';simp
 rw [e] at this
 rw [← e];rw [← e] at this
 exact this
theorem yds (p:ByteArray) (d:Nat):p.extract 0 d=⟨(p.data.toList.take d).toArray⟩:=by
 apply ByteArray.ext;apply Array.ext'
 rw [Lib.extract_data,List.drop_zero,Nat.sub_zero]
theorem ydt (p:ByteArray) (d:Nat):p.extract d p.size=⟨(p.data.toList.drop d).toArray⟩:=by
 apply ByteArray.ext;apply Array.ext'
 rw [Lib.extract_data,List.take_of_length_le (by rw [List.length_drop];exact Nat.le_refl _)]
theorem ydu {w:World} {B e:Nat} {v:Value} {F:List Fld} {a b:List UInt8} {X Y:ByteArray} (h:w.ownsRow B e 2 v (F.length+1) (zai F++[.string X,.string Y])) (hX:X=⟨a.toArray⟩) (hY:Y=⟨b.toArray⟩):w.ownsRow B e 2 v (F.length+1) (zai (F++[(a,b)])):=by
 subst hX;subst hY
 rw [zcp];exact h
theorem ydv {w:World} {b b':Nat} {e:TypeId} {size:Nat} {v:Value} {n:Nat} {xs:List Value} (h:w.ownsRow b e size v n xs) (hb:b'≤b):w.ownsRow b' e size v n xs:=⟨h.1,h.2.imp id fun ⟨g,cap,cur,h1,h2,h3⟩=>⟨g,cap,cur,h1,Nat.le_trans hb h2,h3⟩⟩
def zkr (F:List Fld) (k:Nat):List Fld:=(F.take k).map (fun p=>(p.1,trimB p.2))++F.drop k
theorem zw2 (F:List Fld) (k:Nat) (hk:k<F.length) (q:Fld) (hq:F[k]=q):(zai (zkr F k)).length=F.length * 2∧(zai (zkr F k))[k * 2+1]? =some (.string ⟨q.2.toArray⟩)∧(zai (zkr F k)).set (k * 2+1) (.string ⟨(trimB q.2).toArray⟩)=zai (zkr F (k+1)):=by
 have hmix:zai (zkr F k)=zai ((F.take k).map (fun p=>(p.1,trimB p.2)))++([.string ⟨q.1.toArray⟩,.string ⟨q.2.toArray⟩]++zai (F.drop (k+1))):=by
  unfold zkr
  rw [List.drop_eq_getElem_cons hk,hq];simp [zai]
 have hml:(zai ((F.take k).map (fun p=>(p.1,trimB p.2)))).length=k * 2:=by rw [zb5,List.length_map,List.length_take];omega
 refine ⟨?_,?_,?_⟩
 ·rw [zb5];unfold zkr;rw [List.length_append,List.length_map,List.length_take,List.length_drop];omega
 ·rw [hmix,List.getElem?_append_right (by omega),hml,show k * 2+1 - k * 2=1 by omega];rfl
 ·rw [hmix,List.set_append_right _ _ (by rw [hml];omega),hml,show k * 2+1 - k * 2=1 by omega]
  unfold zkr
  rw [List.take_succ_eq_append_getElem hk,hq]
  simp [zai]
theorem ne58:∀ d:UInt8,d≠58→((d.toNat:Int) != 58)=true:=by decide +kernel
theorem z8p (L:Bool) (p:ByteArray) (b:Bool) (h:(L || decide ((998:Int)<p.size))=b):Value.bool b=.bool (L || decide (998<p.data.toList.length)):=by
 rw [← h];congr 2
 rw [decide_eq_decide,show p.data.toList.length=p.size from rfl];omega
def yp6 (v:Value) (ls:List (List UInt8)) (w:World):Prop:=∃ a n cap,v=.slice a n cap∧n=ls.length∧n≤cap∧(n=0∨∃ g o,a=some ⟨g,o,none⟩∧g<w.heap.size∧∀ (j:Nat) (x:List UInt8),ls[j]? =some x→w.cell? ⟨g,o+j,none⟩=some (.string ⟨x.toArray⟩))
theorem z2w {w:World} {B e:Nat} {v:Value} {ls:List (List UInt8)} (h:w.ownsRow B e 1 v ls.length (strCells ls)):yp6 v ls w:=by
 rcases zhd h with ⟨rfl,h0⟩ | ⟨g,cap,rfl,hB,hg,hc⟩
 ·exact ⟨_,_,_,rfl,h0.symm,Nat.le_refl _,.inl rfl⟩
 ·refine ⟨_,_,_,rfl,rfl,hc,.inr ⟨g,0,rfl,hg,fun j x hj=>?_⟩⟩
  have hjl:=(qg hj).1
  have:=h.cellAt j (by omega)
  rw [Nat.zero_add,this,strCells,List.getElem?_map,hj];rfl
end Nun
namespace Go.Proofs.YtmpiobfdchlikaaGreatDoor
open Go Go.RowKit Nun
def yjz:Split→World→Ending→World→Prop
 | .form,w,e,w'=>e=.returned (.tuple #[.slice none 0 0,.int .i64 0,.int .i64 7])∧Below w.heap.size w w'
 | .long,w,e,w'=>e=.returned (.tuple #[.slice none 0 0,.int .i64 0,.int .i64 6])∧Below w.heap.size w w'
 | .ok l b,w,e,w'=>∃ v,e=.returned (.tuple #[v,.int .i64 b,.int .i64 0])∧w'.ownsRow w.heap.size 41 2 v l.length (zai l)∧Below w.heap.size w w'
theorem zle (s:ByteArray) (b:Bool) (h:s.data.toList.all zd6=b) (w:World) (hs:s.size≤maxLen):Calls Tryz.prog 112 #[.string s] w (Same (.bool b) w):=h ▸ z66 s w hs
theorem z0p (s:ByteArray) (b:Bool) (h:zgv s.data.toList=b) (w:World) (hs:s.size≤maxLen):Calls Tryz.prog 49 #[.string s] w (Same (.bool b) w):=h ▸ zz4 s w hs
theorem zks (c:UInt8) (b:Bool) (h:zal c=b) (w:World):Calls Tryz.prog 113 #[.int .u8 c.toNat] w (Same (.bool b) w):=h ▸ zrv c w
theorem z2x:(Tryz.prog.info? 41).map (fun i=>(i.zero,i.size,i.bytes))=some (some (.agg #[.string ⟨#[]⟩,.string ⟨#[]⟩]),2,32):=by kernel_rfl
set_option maxRecDepth 100000 in
theorem z8q (s:ByteArray) (w:World) (hs:s.size≤10000) (V:Split) (hV:zba s.data.toList=V):Calls Tryz.prog 61 #[.string s] w (yjz V w):=by
 rcases hR:zff (itL s.data.toList 0) with _ | ⟨ls,at_⟩
 ·have hform:V=.form:=by rw [← hV];unfold zba;rw [zot _ _ hR]
  subst hform
  have HR:=Lib.hid hR;clear hR hV
  go_enter Tryz.func61,Tryz.ntmps61
  go_wp2_with (go_at_call 111;refine (zw1 s _ (by omega) none HR.out).mono ?_;rintro e w1 ⟨rfl,hb1⟩)
  go_ret3
  exact ⟨rfl,hb1⟩
 ·have hrun:=zou _ ([],false) _ _ hR
  have hlen:ls.length≤10000∧∀ x∈ls,x.length≤10000:=by
   have h1:=ztd _ _ _ hR
   have h2:=zqx _ s.data.toList 0 (Nat.le_refl _)
   refine ⟨Nat.le_trans h1.1 (Nat.le_trans h2 hs),fun x hx=>?_⟩
   obtain ⟨b,hb⟩:=h1.2 x hx
   exact Nat.le_trans (z6h _ _ _ (Nat.le_refl _) _ hb) hs
  have hne:=zw0 _ _ _ hR
  have HR:=Lib.hid hR
  have hVV:V=match zck ls ([],false) with | none=>.form | some (_,true)=>.long | some (f,false)=>.ok (f.map fun p=>(p.1,trimB p.2)) at_:=by
   rw [← hV];unfold zba;rw [hrun]
   rcases zck ls ([],false) with _ | ⟨f,_ | _⟩<;>rfl
  have HV:=Lib.hid hVV
  obtain ⟨hln,hlx⟩:=hlen
  have HX:=Lib.hid hlx;have HNE:=Lib.hid hne
  clear hR hV hrun hVV hlx hne
  go_enter Tryz.func61,Tryz.ntmps61
  go_wp2_with (go_at_call 111;refine (zw1 s _ (by omega) _ HR.out).mono ?_;rintro e w1 ⟨v,rfl,hown,hb1⟩;obtain ⟨a0,n0,cap0,rfl,hn0,hc0,hr0⟩:=z2w hown;have HN0:=Lib.hid hn0;have HR0:=Lib.hid hr0;clear hown hn0 hr0)
  have hbs:=hb1.size
  go_loopw [8,9,10,11,12] (fun v lg i _ _ wr=>∃ (k:Nat) (F:List Fld) (L:Bool),i=.int .i64 k∧k≤n0∧lg=.bool L∧wr.ownsRow w1.heap.size 41 2 v F.length (zai F)∧Below w1.heap.size w1 wr∧Hid (zck (ls.take k) ([],false)=some (F,L)))
   (fun _ _ i _ _ _=>n0 - (intOf i).toNat)
  case atStart=>exact ⟨0,[],false,rfl,Nat.zero_le _,rfl,World.ownsRow_made (size:=2) w1 _ 0 (Nat.le_refl _) (by decide) (by decide),(Below.refl _ _).alloc (Nat.le_refl _) _,Lib.hid rfl⟩
  case round =>
   obtain ⟨k,F,L,rfl,hk,rfl,hown,hbel,hst⟩:=hrel
   have hbelw:Below w.heap.size w wr:=hb1.trans (hbel.mono hbs)
   by_cases hlt:k<n0
   ·have hkl:k<ls.length:=by rw [← HN0.out];exact hlt
    obtain ⟨g,o,rfl,hg,hrow⟩:=HR0.out.resolve_left (by omega)
    obtain ⟨p,hp⟩:∃ p:ByteArray,(⟨ls[k].toArray⟩:ByteArray)=p:=⟨_,rfl⟩
    have hpl:p.data.toList=ls[k]:=by rw [← hp]
    have hcell:=(hbel.cell (p:=⟨g,o+k,none⟩) hg).trans (hrow k _ (qe hkl))
    rw [hp] at hcell
    have hgwr:g<wr.heap.size:=Nat.lt_of_lt_of_le hg hbel.size
    have hps:p.size≤10000:=by
     have:=HX.out ls[k] (List.getElem_mem _)
     rw [← hpl] at this;exact this
    have hpne:p.data.toList≠[]:=by rw [hpl];exact HNE.out _ (List.getElem_mem _)
    have hpos:0<p.size:=by
     rcases Nat.eq_zero_or_pos p.size with h | h
     ·exact absurd (qz h) hpne
     ·exact h
    have hpm:p.size≤maxLen:=by unfold maxLen;omega
    have hLl:L=true∨(L=false∧(998:Int)<p.size)∨(L=false∧¬ (998:Int)<p.size):=by
     rcases L with _ | _
     ·by_cases h:(998:Int)<p.size
      ·exact .inr (.inl ⟨rfl,h⟩)
      ·exact .inr (.inr ⟨rfl,h⟩)
     ·exact .inl rfl
    have hbadV:za6 (F,L) p.data.toList=none→V=.form:=by
     intro h
     rw [hpl] at h
     rw [HV.out,z8o ls k _ _ hkl hst.out h]
    have HPL:=Lib.hid hpl;have HBV:=Lib.hid hbadV;have HLL:=Lib.hid hLl;have HKL:=Lib.hid hkl
    have HRW:=Lib.hid hrow
    clear hp hpl hbadV hLl hrow hpne
    have hhead:=zs4 p hpos
    rcases hsh:p.data.toList.all zd6 with _ | _
    ·have hVf:=HBV.out (zlb hsh)
     have HSH:=Lib.hid hsh
     subst hVf
     clear hsh hhead
     rcases HLL.out with rfl | ⟨rfl,hll⟩ | ⟨rfl,hll⟩
     all_goals
      go_wp2_with (go_at_call 112;refine (zle p false HSH.out _ hpm).mono ?_;rintro e w2 ⟨rfl,rfl⟩)
      go_ret3
      exact ⟨rfl,hbelw⟩
    ·rcases hbl:zal p[0] with _ | _
     ·rw [hbl] at hhead
      have HSH:=Lib.hid hsh;have HBL:=Lib.hid hbl
      rcases hco:zdp 58 p.data.toList with _ | c
      ·have hVf:=HBV.out (zop hhead hco)
       have hnc:∀ j,(hj:j<p.size)→((p[j].toNat:Int) != 58)=true:=by
        intro j hj
        have:=zqw hco j
        rw [qe (show j<p.data.toList.length from hj)] at this
        have h2:p[j]≠58:=fun h=>this (by rw [← h];rfl)
        exact ne58 _ h2
       have HNC:=Lib.hid hnc
       subst hVf
       clear hsh hbl hhead hco hnc
       rcases HLL.out with rfl | ⟨rfl,hll⟩ | ⟨rfl,hll⟩
       all_goals
        go_wp2_with (first | (go_at_call 112;refine (zle p true HSH.out _ hpm).mono ?_;rintro e w2 ⟨rfl,rfl⟩) | (go_at_call 113;refine (zks _ false HBL.out _).mono ?_;rintro e w2 ⟨rfl,rfl⟩))
        go_loopw [12] (fun j w4=>∃ d:Nat,j=.int .i64 d∧d≤p.size∧w4=wr) (fun j _=>p.size - (intOf j).toNat)
        case atStart=>exact ⟨0,rfl,Nat.zero_le _,rfl⟩
        case round =>
         obtain ⟨d,rfl,hd,rfl⟩:=hrel
         by_cases hdl:d<p.size
         ·have hq:=HNC.out d hdl
          go_wp2
          go_roundw
          case rel=>exact ⟨d+1,by go_num,by omega,trivial⟩
          case measure=>simp [intOf];omega
         ·obtain rfl:d=p.size:=by omega
          go_wp2
          go_ret3
          exact ⟨rfl,hbelw⟩
      ·have hcl:=zm3 hco
       rw [show p.data.toList.length=p.size from rfl] at hcl
       have hnc:∀ j,(hj:j<c)→((p[j].toNat:Int) != 58)=true:=by
        intro j hj
        have:=zol hco j hj
        rw [qe (show j<p.data.toList.length from Nat.lt_trans hj hcl)] at this
        have h2:p[j]≠58:=fun h=>this (by rw [← h];rfl)
        exact ne58 _ h2
       have hcc:((p[c].toNat:Int) != 58)=false:=by
        have:=zqv hco
        rw [qe (show c<p.data.toList.length from hcl)] at this
        have h2:p[c]=58:=Option.some.inj this
        rw [h2];rfl
       have HNC:=Lib.hid hnc
       rcases hna:zgv (p.data.toList.take c) with _ | _
       ·have hVf:=HBV.out (zrd hhead hco hna)
        have HNA:=Lib.hid hna
        subst hVf
        clear hsh hbl hhead hco hnc hna
        rcases HLL.out with rfl | ⟨rfl,hll⟩ | ⟨rfl,hll⟩
        all_goals
         go_wp2_with (first | (go_at_call 112;refine (zle p true HSH.out _ hpm).mono ?_;rintro e w2 ⟨rfl,rfl⟩) | (go_at_call 113;refine (zks _ false HBL.out _).mono ?_;rintro e w2 ⟨rfl,rfl⟩))
         go_loopw [12] (fun j w4=>∃ d:Nat,j=.int .i64 d∧d≤c∧w4=wr) (fun j _=>p.size - (intOf j).toNat)
         case atStart=>exact ⟨0,rfl,Nat.zero_le _,rfl⟩
         case round =>
          obtain ⟨d,rfl,hd,rfl⟩:=hrel
          by_cases hdl:d<c
          ·have hdp:d<p.size:=by omega
           have hq:=HNC.out d hdl
           go_wp2
           go_roundw
           case rel=>exact ⟨d+1,by go_num,by omega,trivial⟩
           case measure=>simp [intOf];omega
          ·obtain rfl:d=c:=by omega
           have hnl:((d:Int) == (p.size:Int))=false:=by rw [beq_eq_false_iff_ne];omega
           go_wp2_with (go_at_call 49;refine (z0p (p.extract 0 d) false (by rw [Lib.extract_data,List.drop_zero,Nat.sub_zero];exact HNA.out) _ (by rw [ByteArray.size_extract];unfold maxLen;omega)).mono ?_;rintro e w2 ⟨rfl,rfl⟩)
           go_ret3
           exact ⟨rfl,hbelw⟩
       ·obtain ⟨i0,hi0,hz0,hz1,hz2⟩:=info_parts z2x
        have hstep:=zs3 (st:=(F,L)) hsh hhead hco hna
        have hnext:zck (ls.take (k+1)) ([],false)=some (F++[(p.data.toList.take c,p.data.toList.drop (c+1))],L || decide (998<p.data.toList.length)):=by rw [zn6 ls k _ _ HKL.out hst.out,← HPL.out];exact hstep
        have hFl:F.length≤k:=by
         have:=zko _ _ _ hst.out
         rw [List.length_take] at this
         simp only [List.length_nil,Nat.zero_add] at this;omega
        have HNX:=Lib.hid hnext
        have HNA:=Lib.hid hna
        clear hsh hbl hhead hco hnc hna hstep hnext
        rcases HLL.out with rfl | ⟨rfl,hll⟩ | ⟨rfl,hll⟩
        all_goals
         go_wp2_with (first | (go_at_call 112;refine (zle p true HSH.out _ hpm).mono ?_;rintro e w2 ⟨rfl,rfl⟩) | (go_at_call 113;refine (zks _ false HBL.out _).mono ?_;rintro e w2 ⟨rfl,rfl⟩))
         go_loopw [12] (fun j w4=>∃ d:Nat,j=.int .i64 d∧d≤c∧w4=wr) (fun j _=>p.size - (intOf j).toNat)
         case atStart=>exact ⟨0,rfl,Nat.zero_le _,rfl⟩
         case round =>
          obtain ⟨d,rfl,hd,rfl⟩:=hrel
          by_cases hdl:d<c
          ·have hdp:d<p.size:=by omega
           have hq:=HNC.out d hdl
           go_wp2
           go_roundw
           case rel=>exact ⟨d+1,by go_num,by omega,trivial⟩
           case measure=>simp [intOf];omega
          ·obtain rfl:d=c:=by omega
           have hnl:((d:Int) == (p.size:Int))=false:=by rw [beq_eq_false_iff_ne];omega
           go_wp2_with (go_at_call 49;refine (z0p (p.extract 0 d) true (by rw [Lib.extract_data,List.drop_zero,Nat.sub_zero];exact HNA.out) _ (by rw [ByteArray.size_extract];unfold maxLen;omega)).mono ?_;rintro e w2 ⟨rfl,rfl⟩)
           have hw1:IntKind.i64.wrap ((d:Int)+1)=(d:Int)+1:=IntWalk.i64_in _ (by omega)
           have hw2:(0:Int)≤(d:Int)+1:=by omega
           have hw3:((d:Int)+1).toNat=d+1:=by omega
           have hw4:(k:Int)<(n0:Int):=by omega
           have hw5:(0:Int)≤(d:Int):=by omega
           have hw6:(d:Int)≤(p.size:Int):=by omega
           have hw7:(d:Int)+1≤(p.size:Int):=by omega
           have hw8:(d:Int).toNat=d:=by omega
           have hfar:(u8:Value).ownBlock≠some g:=by
            intro e
            have:=(hown.lt g e).1
            omega
           obtain ⟨X,hX⟩:∃ X:ByteArray,p.extract 0 d=X:=⟨_,rfl⟩
           obtain ⟨Y,hY⟩:∃ Y:ByteArray,p.extract (d+1) p.size=Y:=⟨_,rfl⟩
           have hwb:w1.heap.size≤wr.heap.size:=hbel.size
           go_region_held3 (fun w'=>w'.cell? ⟨g,o+k,none⟩=some (.string p)) (first | go_keep | exact hcell | (rw [hgrow.cell_far _ (by simp;omega) (Ne.symm hfar)];first | assumption | go_keep))
            ((refine step_append_lies _ (by rfl) _ _ _ (by rfl) w1.heap.size 41 i0 _ 2 32 Tryz.underlying33 hi0 hz0 hz1 hz2 rfl (by omega) u8 F.length (zai F) (by rfl) ((hown.alloc _).drew)
               ⟨wr.heap.size,0,none⟩ 1 1 [.string X,.string Y] (by rfl) (by rfl) (World.news_of_block (cs:=#[.string X,.string Y]) (t:=41) (fr:=(0,0)) (heap_alloc_new wr _)) (by simp [Value.oneCell'])
               (by omega) (by unfold maxLen;omega) (by omega) (by simp;omega) (wr.heap.size+1) (by simp) ?_;intro gg cap w5 hown5 hgrow hat hlt5))
           have HRO:=Lib.hid (ydu hown5 (show X=⟨(p.data.toList.take d).toArray⟩ by rw [← hX];exact yds _ _) (show Y=⟨(p.data.toList.drop (d+1)).toArray⟩ by rw [← hY];exact ydt _ _))
           have HBE:=Lib.hid (Below.grown (((hbel.alloc hwb _).drew)) hgrow (by simp;omega) (fun k h=>(hown.lt k h).1))
           clear hown5 hgrow hX hY
           go_wp2
           go_roundw
           case rel=>exact ⟨k+1,F++[(p.data.toList.take d,p.data.toList.drop (d+1))],_,by go_num,by omega,z8p _ p _ (by first | rfl | simp [*]),by rw [List.length_append];exact HRO.out,HBE.out,HNX⟩
           case measure=>simp [intOf];omega
     ·rw [hbl] at hhead
      have HSH:=Lib.hid hsh;have HBL:=Lib.hid hbl;have HH:=Lib.hid hhead
      clear hsh hbl hhead
      rcases Nat.eq_zero_or_pos k with h0 | hk0
      ·have hF:F=[]:=by
        have:=hst.out;rw [h0] at this
        simp [zck] at this;exact this.1
       have hVf:=HBV.out (zlq HH.out hF)
       subst hVf
       have hk0:((k:Int) == 0)=true:=by rw [h0];rfl
       clear hF h0
       rcases HLL.out with rfl | ⟨rfl,hll⟩ | ⟨rfl,hll⟩
       all_goals
        go_wp2_with (first | (go_at_call 112;refine (zle p true HSH.out _ hpm).mono ?_;rintro e w2 ⟨rfl,rfl⟩) | (go_at_call 113;refine (zks _ true HBL.out _).mono ?_;rintro e w2 ⟨rfl,rfl⟩))
        go_ret3
        exact ⟨rfl,hbelw⟩
      ·have hFne:F≠[]:=z0o _ _ _ hst.out (by intro h;have h2:=congrArg List.length h;rw [List.length_take,List.length_nil] at h2;have:=HKL.out;omega)
       obtain ⟨F0,q,rfl⟩:∃ F0 q,F=F0++[q]:=⟨F.dropLast,F.getLast hFne,(List.dropLast_concat_getLast hFne).symm⟩
       have hFl:(F0++[q]).length≤k:=by
        have:=zko _ _ _ hst.out
        rw [List.length_take] at this
        simp only [List.length_nil,Nat.zero_add] at this;omega
       have hqv:q.2.length≤10000 * k:=by
        have:=zlc _ _ _ 0 10000 hst.out (by simp) (fun l hl=>HX.out l (List.mem_of_mem_take hl)) q (by simp)
        rw [List.length_take,Nat.zero_add] at this
        exact Nat.le_trans this (Nat.mul_le_mul (Nat.le_refl _) (Nat.min_le_left _ _))
       obtain ⟨m,hm0⟩:∃ m,F0.length=m:=⟨_,rfl⟩
       have hlen1:(F0++[q]).length=m+1:=by rw [List.length_append,hm0];rfl
       rw [hlen1,zcp] at hown
       rw [hlen1] at hFl
       obtain ⟨gf,cap,rfl,hg0,hglt,hcap⟩:∃ gf cap,u8=.slice (some ⟨gf,0,none⟩) (m+1) cap∧w1.heap.size≤gf∧gf<wr.heap.size∧m+1≤cap:=by
        rcases zhd hown with ⟨_,h⟩ | ⟨gf,cap,h⟩
        ·omega
        ·exact ⟨gf,cap,h⟩
       have hcf:=hown.cellAt (m * 2+1) (by omega)
       rw [List.getElem?_append_right (by rw [zb5];omega),zb5,hm0,show m * 2+1 - m * 2=1 by omega] at hcf
       have hcf':wr.cell? ⟨gf,m * 2+1,none⟩=some (.string ⟨q.2.toArray⟩):=hcf
       have hff:=hown.frozenAt (m * 2+1)
       have hqs:(ByteArray.mk q.2.toArray).size≤200000000:=by show q.2.length≤_;omega
       have hstep:=zs2 (st:=(F0++[q],L)) HSH.out HH.out rfl
       have hnext:zck (ls.take (k+1)) ([],false)=some (F0++[(q.1,q.2++p.data.toList)],L || decide (998<p.data.toList.length)):=by rw [zn6 ls k _ _ HKL.out hst.out,← HPL.out];exact hstep
       have HNX:=Lib.hid hnext;have HOWN:=Lib.hid hown;have HM:=Lib.hid hm0
       have hk0':((k:Int) == 0)=false:=by rw [beq_eq_false_iff_ne];omega
       have hml:m≤10000:=by omega
       clear hFne hlen1 hcf hown hstep hnext hm0 hk0
       have hclq:=fun d os=>cell_regrown hcell d os
       have hcgq:=fun d os=>cell_regrown hcf' d os
       have hmi:(m:Int)<(m:Int)+1:=by omega
       rcases HLL.out with rfl | ⟨rfl,hll⟩ | ⟨rfl,hll⟩
       all_goals
        go_wp2_with (first | (go_at_call 112;refine (zle p true HSH.out _ hpm).mono ?_;rintro e w2 ⟨rfl,rfl⟩) | (go_at_call 113;refine (zks _ true HBL.out _).mono ?_;rintro e w2 ⟨rfl,rfl⟩))
        (refine zfv 12 (by kernel_rfl) (by kernel_rfl) ?_;simp only [List.take_succ_cons,List.take_zero];(repeat (first | go_big_quiet_skip | (go_big_quiet_want;go_big_quiet_op;first | go_big_quiet_on | (apply Exists.intro;refine ⟨fun _=>?_,?_⟩;(· (fail));go_big_quiet_on))));refine wpQuiet_nil ?_;intro wq hbq;simp only [List.drop_succ_cons,List.drop_zero])
        have hcf5:=(hbq.cell (p:=⟨gf,m * 2+1,none⟩) hglt).trans hcf'
        have hff5:=(hbq.frozen (p:=⟨gf,m * 2+1,none⟩) hglt).trans hff
        have HRO:=Lib.hid (ydr (p:=p) (own_below HOWN.out hbq) HM.out)
        have HBE:=Lib.hid ((hbel.trans (hbq.mono hbel.size)).setCell (p:=⟨gf,m * 2+1,none⟩) hg0 (.string (⟨q.2.toArray⟩++p)))
        clear hclq hcgq hcell hcf' hff
        go_wp2
        go_roundw
        case rel=>exact ⟨k+1,_,_,by go_num,by omega,z8p _ p _ (by first | rfl | simp [*]),HRO.out,HBE.out,HNX⟩
        case measure=>simp [intOf];omega
   ·obtain rfl:k=n0:=by omega
    have hall:zck ls ([],false)=some (F,L):=by
     have:=hst.out;rw [HN0.out,List.take_length] at this;exact this
    have hFl:F.length≤10000:=by
     have:=zko _ _ _ hall
     simp only [List.length_nil,Nat.zero_add] at this;omega
    have hFv:∀ q∈F,q.2.length≤100000000:=by
     intro q hq
     have:=zlc _ _ _ 0 10000 hall (by simp) (fun l hl=>HX.out l hl) q hq
     rw [Nat.zero_add] at this
     exact Nat.le_trans this (Nat.mul_le_mul (Nat.le_refl _) hln)
    have hVV:=HV.out
    rw [hall] at hVV
    have HFV:=Lib.hid hFv
    clear hall hFv
    rcases L with _ | _
    ·replace hVV:V=.ok (F.map fun p=>(p.1,trimB p.2)) at_:=hVV
     subst hVV
     obtain ⟨n,hn⟩:∃ n,F.length=n:=⟨_,rfl⟩
     rw [hn] at hown hFl
     have HN:=Lib.hid hn;clear hn
     obtain ⟨a1,cap1,rfl,ha1⟩:∃ a1 cap1,u8=.slice a1 n cap1∧(n=0∨∃ g,a1=some ⟨g,0,none⟩∧w1.heap.size≤g∧g<wr.heap.size∧n≤cap1):=by
      rcases zhd hown with ⟨h,h0⟩ | ⟨g,cap,h,h1,h2,h3⟩
      ·exact ⟨none,0,by rw [h,h0],.inl h0⟩
      ·exact ⟨_,_,h,.inr ⟨g,rfl,h1,h2,h3⟩⟩
     have HA:=Lib.hid ha1;clear ha1
     go_wp2
     go_loopw [13] (fun i w4=>∃ j:Nat,i=.int .i64 j∧j≤n∧Hid (w4.ownsRow w1.heap.size 41 2 (.slice a1 n cap1) n (zai (zkr F j)))∧Hid (Below w1.heap.size w1 w4))
      (fun i _=>n - (intOf i).toNat)
     case atStart=>exact ⟨0,rfl,Nat.zero_le _,Lib.hid (by simpa [zkr] using hown),Lib.hid hbel⟩
     case round =>
      rename_i i4 w4
      clear hown hbel hbelw
      obtain ⟨j,rfl,hj,HROW,HB⟩:=hrel
      by_cases hlt2:j<n
      ·obtain ⟨g,rfl,hg0,_,hcap⟩:=HA.out.resolve_left (by omega)
       have hjF:j<F.length:=by rw [HN.out];exact hlt2
       obtain ⟨q,hq⟩:∃ q,F[j]=q:=⟨_,rfl⟩
       obtain ⟨ht1,ht2,ht3⟩:=zw2 F j hjF q hq
       have hcell:=HROW.out.cellAt (j * 2+1) (by omega)
       rw [ht2] at hcell
       have hfro:=HROW.out.frozenAt (j * 2+1)
       have hqs:(ByteArray.mk q.2.toArray).size≤1000000000:=by
        have:=HFV.out q (by rw [← hq];exact List.getElem_mem _)
        show q.2.length≤_;omega
       have hji:(j:Int)<(n:Int):=by omega
       have hR:=(HROW.out.stored (j * 2+1) (.string ⟨(trimB q.2).toArray⟩)).1
       rw [ht3] at hR
       have HRO:=Lib.hid hR
       have HBE:=Lib.hid (HB.out.setCell (p:=⟨g,j * 2+1,none⟩) hg0 (.string ⟨(trimB q.2).toArray⟩))
       clear ht1 ht2 ht3 hR
       go_wp2_with (go_at_call 114;refine (ycx _ _ hqs).mono ?_;rintro e w5 ⟨rfl,rfl⟩)
       go_roundw
       case rel=>exact ⟨j+1,by go_num,by omega,HRO,HBE⟩
       case measure=>simp [intOf];omega
      ·obtain rfl:j=n:=by omega
       go_wp2
       go_ret3
       refine ⟨_,rfl,?_,hb1.trans (HB.out.mono hbs)⟩
       have h:=ydv HROW.out hbs
       unfold zkr at h
       rw [List.take_of_length_le (by rw [HN.out];exact Nat.le_refl _),List.drop_of_length_le (by rw [HN.out];exact Nat.le_refl _),List.append_nil] at h
       rw [List.length_map,HN.out];exact h
    ·replace hVV:V=.long:=hVV
     subst hVV
     go_wp2
     go_ret3
     exact ⟨rfl,hbelw⟩
end Go.Proofs.YtmpiobfdchlikaaGreatDoor
end
section
set_option synthInstance.maxSize 4000
namespace Nun
open Go Go.RowKit
def endW (p:UInt8→Bool) (l:List UInt8) (k:Nat):Nat:=k+((l.drop k).takeWhile p).length
theorem zw3 {p:UInt8→Bool} {l:List UInt8} {k:Nat} (h:k<l.length) (hp:p l[k]=true):endW p l k=endW p l (k+1):=by
 unfold endW
 rw [List.drop_eq_getElem_cons h,List.takeWhile_cons,hp]
 simp;omega
theorem zw4 {p:UInt8→Bool} {l:List UInt8} {k:Nat} (h:k<l.length) (hp:p l[k]=false):endW p l k=k:=by
 unfold endW
 rw [List.drop_eq_getElem_cons h,List.takeWhile_cons,hp]
 simp
theorem z0q {p:UInt8→Bool} {l:List UInt8} {k:Nat} (h:l.length≤k):endW p l k=k:=by
 unfold endW
 rw [List.drop_of_length_le h];rfl
theorem zn7 (p:UInt8→Bool) (l:List UInt8) (k:Nat):k≤endW p l k:=Nat.le_add_right _ _
theorem zkt (p:UInt8→Bool) (l:List UInt8) (k:Nat) (h:k≤l.length):endW p l k≤l.length:=by
 unfold endW
 have:=zfs p (l.drop k)
 rw [List.length_drop] at this;omega
theorem zyp (p:UInt8→Bool):∀ l:List UInt8,l.take (l.takeWhile p).length=l.takeWhile p∧l.drop (l.takeWhile p).length=l.dropWhile p
 | []=>⟨rfl,rfl⟩
 | c::l=>by
   rw [List.takeWhile_cons,List.dropWhile_cons]
   rcases p c with _ | _
   ·exact ⟨rfl,rfl⟩
   ·have:=zyp p l
    simp [this.1,this.2]
theorem zgm (p:UInt8→Bool) (l:List UInt8) (k:Nat):l.drop (endW p l k)=(l.drop k).dropWhile p:=by
 unfold endW
 rw [← List.drop_drop,(zyp p (l.drop k)).2]
theorem zn8 (p:UInt8→Bool) (s:ByteArray) (k:Nat):(s.extract k (endW p s.data.toList k)).data.toList=(s.data.toList.drop k).takeWhile p:=by
 rw [Lib.extract_data]
 unfold endW
 rw [Nat.add_sub_cancel_left,(zyp p _).1]
theorem zw5 (l:List UInt8) (c:UInt8) (k:Nat):begL l [c] k=(zes c (l.drop k)).isSome:=by
 unfold begL
 rcases hd:l.drop k with _ | ⟨a,t⟩
 ·simp [zes]
 ·have hk:k≤l.length:=by
   rcases Nat.lt_or_ge l.length k with h | h
   ·rw [List.drop_of_length_le (Nat.le_of_lt h)] at hd;cases hd
   ·exact h
  rw [decide_eq_true hk]
  by_cases hc:a=c
  ·simp [zes,hc]
  ·simp [zes,hc]
theorem zte {l t:List UInt8} {c:UInt8} {k:Nat} (h:zes c (l.drop k)=some t):t=l.drop (k+1)∧k+1≤l.length:=by
 by_cases hk:k<l.length
 ·rw [List.drop_eq_getElem_cons hk,zes] at h
  split at h
  ·exact ⟨(Option.some.inj h).symm,hk⟩
  ·cases h
 ·rw [List.drop_of_length_le (by omega)] at h;cases h
theorem zyq (l:List UInt8) (k:Nat):zet l k=ze6 ((l.drop k).length+1) (l.drop k):=by
 unfold zet;rw [List.length_drop]
theorem one_byte (s:ByteArray) (j:Nat) (h:j<s.size):(s.extract j (j+1)).data.toList=[s[j]]:=by
 rw [Lib.extract_data,List.drop_eq_getElem_cons (show j<s.data.toList.length from h),show j+1 - j=1 by omega];rfl
theorem z0r (a b:ByteArray):(a++b).data.toList=a.data.toList++b.data.toList:=by simp
end Nun
namespace Go.Proofs.YtmpiobfdchlikaaGreatDoor
open Go Go.RowKit Nun
theorem zyr (c:UInt8) (w:World):Calls Tryz.prog 169 #[.int .u8 c.toNat] w (Same (.bool (zbb c)) w):=by
 go_enter Tryz.func169,Tryz.ntmps169
 go_wp2
 all_goals (go_ret;refine ⟨r1 (vb ?_),rfl⟩)
 all_goals (go_light;revert c;decide +kernel)
theorem ztf (c:UInt8) (b:Bool) (h:zbb c=b) (w:World):Calls Tryz.prog 169 #[.int .u8 c.toNat] w (Same (.bool b) w):=h ▸ zyr c w
theorem ztg (c:UInt8) (b:Bool) (h:zal c=b) (w:World):Calls Tryz.prog 113 #[.int .u8 c.toNat] w (Same (.bool b) w):=h ▸ zrv c w
theorem z2y (s:ByteArray) (k:Nat) (w:World) (hs:s.size≤1000000) (hk:k≤s.size) (E:Nat) (hE:endW zal s.data.toList k=E):Calls Tryz.prog 115 #[.string s,.int .i64 k] w (Same (.int .i64 E) w):=by
 have HE:=Lib.hid hE;clear hE
 go_enter Tryz.func115,Tryz.ntmps115
 go_wp2
 go_loop [1] (fun i=>∃ j:Nat,i=.int .i64 j∧j≤s.size∧Hid (endW zal s.data.toList j=E)) (fun i=>s.size - (intOf i).toNat)
 case atStart=>exact ⟨k,rfl,hk,HE⟩
 case round =>
  clear hk HE
  obtain ⟨j,rfl,hj,hE⟩:=hrel
  by_cases hlt:j<s.size
  ·rcases hb:zal s[j] with _ | _
   ·have HF:=Lib.hid (show (j:Int)=E by rw [← hE.out,zw4 (show j<s.data.toList.length from hlt) hb])
    have HB:=Lib.hid hb;clear hb
    go_wp2_with (go_at_call 113;refine (ztg _ false HB.out _).mono ?_;rintro e w1 ⟨rfl,rfl⟩)
    go_ret
    exact ⟨r1 (vi HF.out),rfl⟩
   ·have HF:=Lib.hid (show endW zal s.data.toList (j+1)=E by rw [← hE.out,← zw3 (show j<s.data.toList.length from hlt) hb])
    have HB:=Lib.hid hb;clear hb
    go_wp2_with (go_at_call 113;refine (ztg _ true HB.out _).mono ?_;rintro e w1 ⟨rfl,rfl⟩)
    go_round
    case rel=>exact ⟨j+1,by go_num,by omega,HF⟩
    case measure=>simp [intOf];omega
  ·have HF:=Lib.hid (show (j:Int)=E by rw [← hE.out,z0q (show s.data.toList.length≤j by show s.size≤j;omega)])
   have hlt2:¬ (j:Int)<(s.size:Int):=by omega
   go_wp2
   go_ret
   exact ⟨r1 (vi HF.out),rfl⟩
theorem yj0 (s:ByteArray) (k:Nat) (w:World) (hs:s.size≤1000000) (hk:k≤s.size) (E:Nat) (hE:endW zbb s.data.toList k=E):Calls Tryz.prog 116 #[.string s,.int .i64 k] w (Same (.int .i64 E) w):=by
 have HE:=Lib.hid hE;clear hE
 go_enter Tryz.func116,Tryz.ntmps116
 go_wp2
 go_loop [1] (fun i=>∃ j:Nat,i=.int .i64 j∧j≤s.size∧Hid (endW zbb s.data.toList j=E)) (fun i=>s.size - (intOf i).toNat)
 case atStart=>exact ⟨k,rfl,hk,HE⟩
 case round =>
  clear hk HE
  obtain ⟨j,rfl,hj,hE⟩:=hrel
  by_cases hlt:j<s.size
  ·rcases hb:zbb s[j] with _ | _
   ·have HF:=Lib.hid (show (j:Int)=E by rw [← hE.out,zw4 (show j<s.data.toList.length from hlt) hb])
    have HB:=Lib.hid hb;clear hb
    go_wp2_with (go_at_call 169;refine (ztf _ false HB.out _).mono ?_;rintro e w1 ⟨rfl,rfl⟩)
    go_ret
    exact ⟨r1 (vi HF.out),rfl⟩
   ·have HF:=Lib.hid (show endW zbb s.data.toList (j+1)=E by rw [← hE.out,← zw3 (show j<s.data.toList.length from hlt) hb])
    have HB:=Lib.hid hb;clear hb
    go_wp2_with (go_at_call 169;refine (ztf _ true HB.out _).mono ?_;rintro e w1 ⟨rfl,rfl⟩)
    go_round
    case rel=>exact ⟨j+1,by go_num,by omega,HF⟩
    case measure=>simp [intOf];omega
  ·have HF:=Lib.hid (show (j:Int)=E by rw [← hE.out,z0q (show s.data.toList.length≤j by show s.size≤j;omega)])
   have hlt2:¬ (j:Int)<(s.size:Int):=by omega
   go_wp2
   go_ret
   exact ⟨r1 (vi HF.out),rfl⟩
def z0s (s:ByteArray) (w:World):Option (List UInt8 × List UInt8)→Ending→World→Prop
 | none,e,w'=>e=.returned (.tuple #[.string ⟨#[]⟩,.int .i64 (-1)])∧w=w'
 | some (v,r),e,w'=>∃ j:Nat,e=.returned (.tuple #[.string ⟨v.toArray⟩,.int .i64 j])∧j≤s.size∧Hid (s.data.toList.drop j=r)∧w=w'
set_option maxRecDepth 100000 in
theorem z2z (s:ByteArray) (k:Nat) (w:World) (hs:s.size≤1000000) (hk:k≤s.size) (Q:Option (List UInt8 × List UInt8)) (hQ:zet s.data.toList k=Q):Calls Tryz.prog 117 #[.string s,.int .i64 k] w (z0s s w Q):=by
 have HQ:=Lib.hid hQ;clear hQ
 go_enter Tryz.func117,Tryz.ntmps117
 go_wp2
 go_loopw [1,6,7] (fun i o _ wr=>∃ (k:Nat) (O:ByteArray),i=.int .i64 k∧o=.string O∧k≤s.size∧O.size≤k∧wr=w∧Hid (Q=(zet s.data.toList k).map fun p=>(O.data.toList++p.1,p.2)))
  (fun i _ _ _=>s.size - (intOf i).toNat)
 case atStart=>exact ⟨k,⟨#[]⟩,rfl,rfl,hk,Nat.zero_le _,rfl,Lib.hid (by rw [HQ.out];simp)⟩
 case round =>
  clear hk HQ
  obtain ⟨k,O,rfl,rfl,hk,hO,rfl,hq⟩:=hrel
  by_cases hlt:k<s.size
  ·have hki:(k:Int)<(s.size:Int):=by omega
   have hq2:=hq.out
   rw [zrh _ k hlt] at hq2
   have hgs:s.data.toList[k]=s[k]:=rfl
   simp only [hgs] at hq2
   by_cases h34:s[k]=34
   ·rw [if_pos h34] at hq2
    have hx:=b34 _ h34
    have HF:=Lib.hid hq2
    clear hq2 h34
    go_wp2
    go_ret2
    rw [HF.out]
    refine ⟨k+1,?_,hlt,Lib.hid rfl,rfl⟩
    rw [List.append_nil,zrf]
    go_num
   ·have hx:=b34n _ h34
    rw [if_neg h34] at hq2
    by_cases hbad:s[k]<32∨126<s[k]
    ·rw [if_pos hbad] at hq2
     have HF:=Lib.hid hq2
     clear hq2 h34
     rcases hbad with h | h
     ·have hy:=b32 _ h
      clear h
      go_wp2
      go_ret2
      rw [HF.out]
      exact ⟨rfl,rfl⟩
     ·have hy:=b126 _ h
      have hz:¬ (s[k].toNat:Int)<32:=by omega
      clear h
      go_wp2
      go_ret2
      rw [HF.out]
      exact ⟨rfl,rfl⟩
    ·rw [if_neg hbad] at hq2
     have hy:=b32n _ (fun h=>hbad (.inl h))
     have hz:=ypl _ (fun h=>hbad (.inr h))
     by_cases h92:s[k]=92
     ·rw [if_pos h92] at hq2
      have hu:=b92 _ h92
      have hw1:IntKind.i64.wrap ((k:Int)+1)=(k:Int)+1:=IntWalk.i64_in _ (by omega)
      by_cases hk1:k+1<s.size
      ·rw [qe (show k+1<s.data.toList.length from hk1)] at hq2
       have hgs1:s.data.toList[k+1]=s[k+1]:=rfl
       simp only [hgs1] at hq2
       have hki1:(k:Int)+1<(s.size:Int):=by omega
       have hkn1:((k:Int)+1 == (s.size:Int))=false:=by rw [beq_eq_false_iff_ne];omega
       by_cases hd:s[k+1]=34∨s[k+1]=92
       ·rw [if_pos hd] at hq2
        have HF:=Lib.hid (show Q=(zet s.data.toList (k+2)).map fun p=>((O++s.extract (k+1) (k+1+1)).data.toList++p.1,p.2) by rw [hq2,z0r,one_byte s (k+1) hk1];simp [Function.comp_def])
        have hO2:(O++s.extract (k+1) (k+1+1)).size≤k+2:=by rw [ByteArray.size_append,ByteArray.size_extract];omega
        clear hq2 h34 hbad h92 hq
        rcases hd with h | h
        ·have hv:=b34o _ h
         clear h
         go_wp2
         go_roundw
         case rel=>exact ⟨k+2,O++s.extract (k+1) (k+1+1),by go_num,rfl,by omega,hO2,trivial,HF⟩
         case measure=>simp [intOf];omega
        ·have hv:=b92o _ h
         have hv2:((s[k+1].toNat:Int) != 34)=true:=by rw [h];rfl
         clear h
         go_wp2
         go_roundw
         case rel=>exact ⟨k+2,O++s.extract (k+1) (k+1+1),by go_num,rfl,by omega,hO2,trivial,HF⟩
         case measure=>simp [intOf];omega
       ·rw [if_neg hd] at hq2
        have HF:=Lib.hid hq2
        have hv:=b34m _ (fun h=>hd (.inl h))
        have hv2:=b92m _ (fun h=>hd (.inr h))
        clear hq2 h34 hbad h92 hd
        go_wp2
        go_ret2
        rw [HF.out]
        exact ⟨rfl,rfl⟩
      ·rw [List.getElem?_eq_none (show s.data.toList.length≤k+1 by show s.size≤_;omega)] at hq2
       have HF:=Lib.hid hq2
       have hkn1:((k:Int)+1 == (s.size:Int))=true:=by rw [beq_iff_eq];omega
       clear hq2 h34 hbad h92
       go_wp2
       go_ret2
       rw [HF.out]
       exact ⟨rfl,rfl⟩
     ·rw [if_neg h92] at hq2
      have hu:=b92n _ h92
      have HF:=Lib.hid (show Q=(zet s.data.toList (k+1)).map fun p=>((O++s.extract k (k+1)).data.toList++p.1,p.2) by rw [hq2,z0r,one_byte s k hlt];simp [Function.comp_def])
      have hO2:(O++s.extract k (k+1)).size≤k+1:=by rw [ByteArray.size_append,ByteArray.size_extract];omega
      clear hq2 h34 hbad h92 hq
      go_wp2
      go_roundw
      case rel=>exact ⟨k+1,O++s.extract k (k+1),by go_num,rfl,by omega,hO2,trivial,HF⟩
      case measure=>simp [intOf];omega
  ·have hki:¬ (k:Int)<(s.size:Int):=by omega
   have HF:=Lib.hid (show Q=none by rw [hq.out,zs5 _ _ (show s.data.toList.length≤k by show s.size≤_;omega)];rfl)
   go_wp2
   go_ret2
   rw [HF.out]
   exact ⟨rfl,rfl⟩
end Go.Proofs.YtmpiobfdchlikaaGreatDoor
end
section
set_option synthInstance.maxSize 4000
namespace Nun
open Go Go.RowKit
theorem ydw (a b:List UInt8):(a == b)=(b == a):=by
 rw [Bool.eq_iff_iff,beq_iff_eq,beq_iff_eq];exact eq_comm
theorem z0t (k:List UInt8) (F:List Fld):F.any (fun x=>zab k == zab x.1)=F.any (fun x=>zab x.1 == zab k):=by
 congr 1;funext x;exact ydw _ _
theorem z8r {l:List UInt8} {k:Nat} (c:UInt8) (h:k<l.length):zes c (l.drop k)=if l[k]=c then some (l.drop (k+1)) else none:=by
 rw [List.drop_eq_getElem_cons h,zes]
theorem b59:∀ c:UInt8,¬ c=59→((c.toNat:Int) != 59)=true:=by decide +kernel
theorem b59o:∀ c:UInt8,c=59→((c.toNat:Int) != 59)=false:=by decide +kernel
end Nun
namespace Go.Proofs.YtmpiobfdchlikaaGreatDoor
open Go Go.RowKit Nun
theorem zeg (s:ByteArray) (i:Int) (k E:Nat) (hE:endW zal s.data.toList k=E) (w:World) (hi:i=k) (hs:s.size≤1000000) (hk:k≤s.size):Calls Tryz.prog 115 #[.string s,.int .i64 i] w (Same (.int .i64 E) w):=by
 subst hi;exact z2y s k w hs hk E hE
theorem zls (s:ByteArray) (i:Int) (k E:Nat) (hE:endW zbb s.data.toList k=E) (w:World) (hi:i=k) (hs:s.size≤1000000) (hk:k≤s.size):Calls Tryz.prog 116 #[.string s,.int .i64 i] w (Same (.int .i64 E) w):=by
 subst hi;exact yj0 s k w hs hk E hE
theorem zw6 (s:ByteArray) (i:Int) (k:Nat) (Q:Option (List UInt8 × List UInt8)) (hQ:zet s.data.toList k=Q) (w:World) (hi:i=k) (hs:s.size≤1000000) (hk:k≤s.size):Calls Tryz.prog 117 #[.string s,.int .i64 i] w (z0s s w Q):=by
 subst hi;exact z2z s k w hs hk Q hQ
theorem zfy (s x:ByteArray) (i:Int) (k:Nat) (b:Bool) (h:begL s.data.toList x.data.toList k=b) (w:World) (hi:i=k) (hs:s.size≤1000000) (hx:x.size≤1000) (hk:k≤1000000):Calls Tryz.prog 60 #[.string s,.string x,.int .i64 i] w (Same (.bool b) w):=by
 subst hi;exact zru s x k b h w (by omega) (by omega) (by omega)
theorem zix (s:ByteArray) (b:Bool) (h:zgv s.data.toList=b) (w:World) (hs:s.size≤maxLen):Calls Tryz.prog 49 #[.string s] w (Same (.bool b) w):=h ▸ zz4 s w hs
set_option maxRecDepth 100000 in
theorem zn9 (s:ByteArray) (w:World) (hs:s.size≤10000) (V:PRes) (hV:zbr s.data.toList=V):Calls Tryz.prog 63 #[.string s] w (z7h V w):=by
 obtain ⟨l,hl⟩:∃ l,s.data.toList=l:=⟨_,rfl⟩
 have hll:l.length=s.size:=by rw [← hl];rfl
 have hsm:s.size≤1000000:=by omega
 obtain ⟨a0,ha0⟩:∃ a0,endW zal l 0=a0:=⟨_,rfl⟩
 obtain ⟨t0,ht0⟩:∃ t0,endW zbb l a0=t0:=⟨_,rfl⟩
 obtain ⟨k0,hk0⟩:∃ k0,endW zal l t0=k0:=⟨_,rfl⟩
 have hd0:l.dropWhile zal=l.drop a0:=by rw [← ha0,zgm,List.drop_zero]
 have hd1:(l.drop a0).dropWhile zbb=l.drop t0:=by rw [← ht0,zgm]
 have hd2:(l.drop t0).dropWhile zal=l.drop k0:=by rw [← hk0,zgm]
 have la0:a0≤l.length:=by rw [← ha0];exact zkt _ _ _ (Nat.zero_le _)
 have lt0:t0≤l.length:=by rw [← ht0];exact zkt _ _ _ la0
 have lk0:k0≤l.length:=by rw [← hk0];exact zkt _ _ _ lt0
 have gt0:a0≤t0:=by rw [← ht0];exact zn7 _ _ _
 obtain ⟨m,hm⟩:∃ m,(l.drop a0).takeWhile zbb=m:=⟨_,rfl⟩
 obtain ⟨M,hM⟩:∃ M,s.extract a0 t0=M:=⟨_,rfl⟩
 have hMd:M.data.toList=m:=by rw [← hM,← ht0,← hl,zn8,hl,hm]
 have hMm:(⟨m.toArray⟩:ByteArray)=M:=(congrArg (fun x:List UInt8=>(⟨x.toArray⟩:ByteArray)) hMd.symm).trans (zrf M)
 unfold zbr at hV
 rw [hl,hll,hd0,hm,hd1] at hV
 rw [← hl] at ha0 ht0 hk0
 rw [hll] at la0 lt0 lk0
 have HA0:=Lib.hid ha0;have HT0:=Lib.hid ht0;have HK0:=Lib.hid hk0;have HMM:=Lib.hid hMm;have HD2:=Lib.hid hd2
 have i1:(a0:Int)≤(t0:Int):=by omega
 have i2:(t0:Int)≤(s.size:Int):=by omega
 by_cases hm0:m=[]
 ·have hem:=zgi m M hMm true (by rw [hm0];rfl)
  have hVf:V=.form:=by
   rw [← hV]
   rcases zjw (s.size+1) (l.drop t0) [] false with _ | ⟨o,tw⟩
   ·rfl
   ·dsimp only;rw [if_pos hm0]
  subst hVf
  clear hV hl hll ha0 ht0 hk0 hd0 hd1 hd2 hm hMd hMm hm0
  go_enter Tryz.func63,Tryz.ntmps63
  go_wp2_with (first | (go_at_call 115;refine (zeg s 0 0 a0 HA0.out _ (by rfl) hsm (Nat.zero_le _)).mono ?_;rintro e w1 ⟨rfl,rfl⟩;clear HA0) | (go_at_call 116;refine (zls s _ a0 t0 HT0.out _ (by rfl) hsm la0).mono ?_;rintro e w1 ⟨rfl,rfl⟩))
  go_ret3
  exact ⟨rfl,Below.refl _ _⟩
 ·have hem:=zgi m M hMm false (by cases m<;>first | rfl | exact absurd rfl hm0)
  have hV':V=match zjw (s.size+1) (l.drop t0) [] false with | none=>PRes.form | some (out,tw)=>if tw then .twice else .ok m out:=by
   rw [← hV]
   rcases zjw (s.size+1) (l.drop t0) [] false with _ | ⟨o,tw⟩
   ·rfl
   ·dsimp only;rw [if_neg hm0]
  have HV:=Lib.hid hV';have HL:=Lib.hid hl;have HLL:=Lib.hid hll
  clear hV hV' hl hll ha0 ht0 hk0 hd0 hd1 hd2 hm hMd hMm hm0
  go_enter Tryz.func63,Tryz.ntmps63
  go_wp2_with (first | (go_at_call 115;refine (zeg s 0 0 a0 HA0.out _ (by rfl) hsm (Nat.zero_le _)).mono ?_;rintro e w1 ⟨rfl,rfl⟩;clear HA0) | (go_at_call 116;refine (zls s _ a0 t0 HT0.out _ (by rfl) hsm la0).mono ?_;rintro e w1 ⟨rfl,rfl⟩) | (go_at_call 115;refine (zeg s _ t0 k0 HK0.out _ (by rfl) hsm lt0).mono ?_;rintro e w1 ⟨rfl,rfl⟩))
  go_loopw [5,6,8,9,10,11,12] (fun at_ _ out tw _ _ _ wr=>∃ (n k:Nat) (r:List UInt8) (F:List Fld) (t:Bool),at_=.int .i64 k∧tw=.bool t∧k≤s.size∧r.length<n∧r.length+F.length≤s.size∧Hid (l.drop k=r.dropWhile zal)∧Hid (∀ p∈F,p.1.length≤1000000) ∧
   Hid (V=match zjw n r F t with | none=>PRes.form | some (out,tw)=>if tw then .twice else .ok m out)∧Hid (wr.ownsRow w.heap.size 114 2 out F.length (zai F))∧Hid (Below w.heap.size w wr))
   (fun at_ _ _ _ _ _ _ _=>s.size - (intOf at_).toNat)
  case atStart=>exact ⟨s.size+1,k0,l.drop t0,[],false,rfl,rfl,lk0,by rw [List.length_drop,HLL.out];omega,by rw [List.length_drop,HLL.out,List.length_nil];omega,Lib.hid HD2.out.symm,Lib.hid (by simp),HV,Lib.hid (World.ownsRow_made (size:=2) w _ 0 (Nat.le_refl _) (by decide) (by decide)),Lib.hid ((Below.refl _ _).alloc (Nat.le_refl _) _)⟩
  case round =>
   clear HT0 HK0 HD2 HV
   obtain ⟨n,k,r,F,tw,rfl,rfl,hk,hrn,hrF,hq,hFs,hVV,hown,hbel⟩:=hrel
   obtain ⟨n,rfl⟩:∃ n',n=n'+1:=⟨n - 1,by omega⟩
   have hqr:(l.drop k).length≤r.length:=by rw [hq.out];exact zbc zal r
   rw [List.length_drop,HLL.out] at hqr
   by_cases hlt:k<s.size
   ·have hki:(k:Int)<(s.size:Int):=by omega
    have hkl:k<l.length:=by rw [HLL.out];exact hlt
    have hgs:l[k]=s[k]:=by
     have:∀ (l':List UInt8) (h:s.data.toList=l') (h2:k<l'.length),l'[k]=s[k]:=by intro l' h h2;subst h;rfl
     exact this l HL.out hkl
    have hne:¬ r.dropWhile zal=[]:=by rw [← hq.out,List.drop_eq_getElem_cons hkl];exact List.cons_ne_nil _ _
    have hsg:=z8r 59 hkl
    rw [hgs] at hsg
    by_cases h59:s[k]=59
    ·rw [if_pos h59] at hsg
     have hx:=b59o _ h59
     obtain ⟨a1,ha1⟩:∃ a1,endW zal l (k+1)=a1:=⟨_,rfl⟩
     obtain ⟨tq,htq⟩:∃ tq,endW zbb l a1=tq:=⟨_,rfl⟩
     have la1:a1≤l.length:=by rw [← ha1];exact zkt _ _ _ (by omega)
     have lto:tq≤l.length:=by rw [← htq];exact zkt _ _ _ la1
     have gto:a1≤tq:=by rw [← htq];exact zn7 _ _ _
     have ga1:k+1≤a1:=by rw [← ha1];exact zn7 _ _ _
     have hd1:(l.drop (k+1)).dropWhile zal=l.drop a1:=by rw [← ha1,zgm]
     have hd2:(l.drop a1).dropWhile zbb=l.drop tq:=by rw [← htq,zgm]
     obtain ⟨p1,hp1⟩:∃ p1,(l.drop a1).takeWhile zbb=p1:=⟨_,rfl⟩
     obtain ⟨K,hK⟩:∃ K,s.extract a1 tq=K:=⟨_,rfl⟩
     have hKd:K.data.toList=p1:=by
      have:=zn8 zbb s a1
      rw [HL.out,htq,hK,hp1] at this;exact this
     have hKp:(⟨p1.toArray⟩:ByteArray)=K:=(congrArg (fun x:List UInt8=>(⟨x.toArray⟩:ByteArray)) hKd.symm).trans (zrf K)
     have hKs:K.size≤10000:=by rw [← hK,ByteArray.size_extract];omega
     have hKm:K.size≤maxLen:=by unfold maxLen;omega
     have hpar:zjr (l.drop (k+1))=if zgv p1=true then (match zes 61 (l.drop tq) with
      | none=>none
      | some l3=>match zes 34 l3 with
        | some l4=>(ze6 (l4.length+1) l4).map fun p=>((p1,p.1),p.2)
        | none=>if l3.takeWhile zbb=[] then none else some ((p1,l3.takeWhile zbb),l3.dropWhile zbb)) else none:=by
      unfold zjr;rw [hd1,hp1,hd2];rfl
     rw [HLL.out] at la1 lto
     rw [← HL.out] at ha1 htq
     have HA1:=Lib.hid ha1;have HTO:=Lib.hid htq;have HKP:=Lib.hid hKp
     have j1:(a1:Int)≤(tq:Int):=by omega
     have j2:(tq:Int)≤(s.size:Int):=by omega
     have hsg2:zes 59 (r.dropWhile zal)=some (l.drop (k+1)):=by rw [← hq.out];exact hsg
     have HSG:=Lib.hid hsg2
     have hform:zjr (l.drop (k+1))=none→V=.form:=by
      intro h
      have:=hVV.out
      rw [znb n r _ F tw hne hsg2 h] at this
      exact this
     have HFORM:=Lib.hid hform;have HNE:=Lib.hid hne
     clear hsg hsg2 hform hne ha1 htq hd1 hd2 hp1 h59
     rcases hn:zgv p1 with _ | _
     ·have hVf:=HFORM.out (by rw [hpar,hn,if_neg (by simp)])
      have HN:=Lib.hid (show zgv K.data.toList=false by rw [hKd];exact hn)
      subst hVf
      clear hpar hn hKd hKp
      go_wp2_with (first | (go_at_call 115;refine (zeg s _ (k+1) a1 HA1.out _ (by omega) hsm (by omega)).mono ?_;rintro e w1 ⟨rfl,rfl⟩;clear HA1) | (go_at_call 116;refine (zls s _ a1 tq HTO.out _ (by rfl) hsm la1).mono ?_;rintro e w1 ⟨rfl,rfl⟩;clear HTO) | (go_at_call 49;refine (zix K false HN.out _ hKm).mono ?_;rintro e w1 ⟨rfl,rfl⟩))
      go_ret3
      exact ⟨rfl,hbel.out⟩
     ·have HN:=Lib.hid (show zgv K.data.toList=true by rw [hKd];exact hn)
      rw [hn,if_pos rfl] at hpar
      have hb61:=zw5 l 61 tq
      rcases hs1:zes 61 (l.drop tq) with _ | l3
      ·have hVf:=HFORM.out (by rw [hpar,hs1])
       have HB61:=Lib.hid (show begL s.data.toList (ByteArray.mk #[61]).data.toList tq=false by rw [HL.out];show begL l [61] tq=false;rw [hb61,hs1];rfl)
       subst hVf
       clear hpar hn hKd hKp hb61 hs1
       go_wp2_with (first | (go_at_call 115;refine (zeg s _ (k+1) a1 HA1.out _ (by omega) hsm (by omega)).mono ?_;rintro e w1 ⟨rfl,rfl⟩;clear HA1) | (go_at_call 116;refine (zls s _ a1 tq HTO.out _ (by rfl) hsm la1).mono ?_;rintro e w1 ⟨rfl,rfl⟩;clear HTO) | (go_at_call 49;refine (zix K true HN.out _ hKm).mono ?_;rintro e w1 ⟨rfl,rfl⟩) | (go_at_call 60;refine (zfy s ⟨#[61]⟩ _ tq false HB61.out _ (by rfl) hsm (by decide) (by omega)).mono ?_;rintro e w1 ⟨rfl,rfl⟩;clear HB61))
       go_ret3
       exact ⟨rfl,hbel.out⟩
      ·obtain ⟨rfl,l3l⟩:=zte hs1
       rw [HLL.out] at l3l
       have HB61:=Lib.hid (show begL s.data.toList (ByteArray.mk #[61]).data.toList tq=true by rw [HL.out];show begL l [61] tq=true;rw [hb61,hs1];rfl)
       rw [hs1] at hpar
       dsimp only at hpar
       have hb34:=zw5 l 34 (tq+1)
       have hw1:IntKind.i64.wrap ((tq:Int)+1)=(tq:Int)+1:=IntWalk.i64_in _ (by omega)
       have hw2:(0:Int)≤(tq:Int)+1:=by omega
       have hw3:((tq:Int)+1).toNat=tq+1:=by omega
       rcases hs2:zes 34 (l.drop (tq+1)) with _ | l4
       ·have HB34:=Lib.hid (show begL s.data.toList (ByteArray.mk #[34]).data.toList (tq+1)=false by rw [HL.out];show begL l [34] (tq+1)=false;rw [hb34,hs2];rfl)
        rw [hs2] at hpar
        dsimp only at hpar
        obtain ⟨j,hj⟩:∃ j,endW zbb l (tq+1)=j:=⟨_,rfl⟩
        have lj:j≤l.length:=by rw [← hj];exact zkt _ _ _ (by rw [HLL.out];exact l3l)
        have gj:tq+1≤j:=by rw [← hj];exact zn7 _ _ _
        have hd3:(l.drop (tq+1)).dropWhile zbb=l.drop j:=by rw [← hj,zgm]
        obtain ⟨v,hv⟩:∃ v,(l.drop (tq+1)).takeWhile zbb=v:=⟨_,rfl⟩
        obtain ⟨X,hX⟩:∃ X,s.extract (tq+1) j=X:=⟨_,rfl⟩
        have hXd:X.data.toList=v:=by
         have:=zn8 zbb s (tq+1)
         rw [HL.out,hj,hX,hv] at this;exact this
        have hXp:(⟨v.toArray⟩:ByteArray)=X:=(congrArg (fun x:List UInt8=>(⟨x.toArray⟩:ByteArray)) hXd.symm).trans (zrf X)
        rw [hv,hd3] at hpar
        rw [← HL.out] at hj
        rw [HLL.out] at lj
        have HJ:=Lib.hid hj
        have j3:(tq:Int)+1≤(j:Int):=by omega
        have j4:(j:Int)≤(s.size:Int):=by omega
        by_cases hv0:v=[]
        ·have hem3:=zgi v X hXp true (by rw [hv0];rfl)
         have hVf:=HFORM.out (by rw [hpar,if_pos hv0])
         subst hVf
         clear hpar hn hKd hKp hb61 hs1 hs2 hb34 hj hd3 hv hXd hXp hv0
         go_wp2_with (first | (go_at_call 115;refine (zeg s _ (k+1) a1 HA1.out _ (by omega) hsm (by omega)).mono ?_;rintro e w1 ⟨rfl,rfl⟩;clear HA1) | (go_at_call 116;refine (zls s _ a1 tq HTO.out _ (by rfl) hsm la1).mono ?_;rintro e w1 ⟨rfl,rfl⟩;clear HTO) | (go_at_call 49;refine (zix K true HN.out _ hKm).mono ?_;rintro e w1 ⟨rfl,rfl⟩) | (go_at_call 60;refine (zfy s ⟨#[61]⟩ _ tq true HB61.out _ (by rfl) hsm (by decide) (by omega)).mono ?_;rintro e w1 ⟨rfl,rfl⟩;clear HB61) | (go_at_call 60;refine (zfy s ⟨#[34]⟩ _ (tq+1) false HB34.out _ (by omega) hsm (by decide) (by omega)).mono ?_;rintro e w1 ⟨rfl,rfl⟩;clear HB34) | (go_at_call 116;refine (zls s _ (tq+1) j HJ.out _ (by omega) hsm (by omega)).mono ?_;rintro e w1 ⟨rfl,rfl⟩))
         go_ret3
         exact ⟨rfl,hbel.out⟩
        ·have hem3:=zgi v X hXp false (by cases v<;>first | rfl | exact absurd rfl hv0)
         rw [if_neg hv0] at hpar
         have hjn:j≤s.size:=lj
         have hdj:l.drop j=l.drop j:=rfl
         obtain ⟨r2,hr2⟩:∃ r2,l.drop j=r2:=⟨_,rfl⟩
         rw [hr2] at hpar
         have hxs:True:=trivial
         clear hn hb61 hs1 hs2 hb34 hj hd3 hv hXd hv0 hdj
         obtain ⟨a8,cap8,rfl,hsl⟩:∃ a8 cap8,u8=.slice a8 F.length cap8∧(F.length=0∨∃ g,a8=some ⟨g,0,none⟩∧w.heap.size≤g∧g<wr.heap.size∧F.length≤cap8):=by
          rcases zhd hown.out with ⟨h,h0⟩ | ⟨g,cap,h,h1,h2,h3⟩
          ·exact ⟨none,0,by rw [h,h0],.inl h0⟩
          ·exact ⟨_,_,h,.inr ⟨g,rfl,h1,h2,h3⟩⟩
         have hsl8:=Lib.hid hsl
         clear hsl
         rename World=>W0
         obtain ⟨hrl,hpl,hpv⟩:=zk6 hpar
         dsimp only at hrl hpl hpv
         rw [List.length_drop,HLL.out] at hrl hpl hpv
         have hFl:F.length≤10000:=by omega
         have hFs2:∀ x∈F++[(p1,v)],x.1.length≤1000000:=by
          intro x hx
          rcases List.mem_append.1 hx with h | h
          ·exact hFs.out x h
          ·rw [List.mem_singleton.1 h];dsimp only;omega
         have hsnoc:zai (F++[(p1,v)])=zai F++[.string K,.string X]:=by rw [zcp];dsimp only;rw [hKp,hXp]
         have hlp:(F++[(p1,v)]).length=F.length+1:=by rw [List.length_append];rfl
         have hkn:=fun b hb=>zn3 n r (l.drop (k+1)) r2 (p1,v) F tw b HNE.out HSG.out hpar hb
         have HST:=Lib.hid hkn;have HSN:=Lib.hid hsnoc;have HLP:=Lib.hid hlp;have HFS2:=Lib.hid hFs2;have HXP:=Lib.hid hXp
         obtain ⟨fk,hfk⟩:∃ fk,zab p1=fk:=⟨_,rfl⟩
         have HFK:=Lib.hid (show zab K.data.toList=fk by rw [hKd];exact hfk)
         have HFK2:=Lib.hid hfk
         clear hpar hFs2 hsnoc hlp hkn hXp hKd hKp hfk
         go_wp2_with (first | (go_at_call 115;refine (zeg s _ (k+1) a1 HA1.out _ (by omega) hsm (by omega)).mono ?_;rintro e w1 ⟨rfl,rfl⟩;clear HA1) | (go_at_call 116;refine (zls s _ a1 tq HTO.out _ (by rfl) hsm la1).mono ?_;rintro e w1 ⟨rfl,rfl⟩;clear HTO) | (go_at_call 49;refine (zix K true HN.out _ hKm).mono ?_;rintro e w1 ⟨rfl,rfl⟩) | (go_at_call 60;refine (zfy s ⟨#[61]⟩ _ tq true HB61.out _ (by rfl) hsm (by decide) (by omega)).mono ?_;rintro e w1 ⟨rfl,rfl⟩;clear HB61) | (go_at_call 60;refine (zfy s ⟨#[34]⟩ _ (tq+1) false HB34.out _ (by omega) hsm (by decide) (by omega)).mono ?_;rintro e w1 ⟨rfl,rfl⟩;clear HB34) | (go_at_call 116;refine (zls s _ (tq+1) j HJ.out _ (by omega) hsm (by omega)).mono ?_;rintro e w1 ⟨rfl,rfl⟩))
         have HR2:=Lib.hid hr2
         go_loopw [9,12] (fun t i wr=>∃ (i0:Nat) (b:Bool),i=.int .i64 i0∧i0≤F.length∧t=.bool (tw || b)∧Hid ((F.take i0).any (fun x=>zab x.1 == fk)=b)∧Hid (Below W0.heap.size W0 wr))
          (fun _ i _=>F.length - (intOf i).toNat)
         case atStart=>exact ⟨0,false,rfl,Nat.zero_le _,by simp,Lib.hid rfl,Lib.hid (Below.refl _ _)⟩
         case round =>
          obtain ⟨i0,b,rfl,hi0,rfl,hb,hbw⟩:=hrel
          by_cases hilt:i0<F.length
          ·obtain ⟨g,rfl,hg0,hgl,hcap⟩:∃ g,a8=some ⟨g,0,none⟩∧w.heap.size≤g∧g<W0.heap.size∧F.length≤cap8:=hsl8.out.resolve_left (by omega)
           obtain ⟨f0,f1⟩:=zmg F i0 hilt
           obtain ⟨q,hqq⟩:∃ q,F[i0]=q:=⟨_,rfl⟩
           rw [hqq] at f0
           have hc0:=hown.out.cellAt (i0 * 2) (by omega)
           rw [f0] at hc0
           have hcw:=(hbw.out.cell (p:=⟨g,i0 * 2,none⟩) hgl).trans hc0
           obtain ⟨A,hA⟩:∃ A:ByteArray,(⟨q.1.toArray⟩:ByteArray)=A:=⟨_,rfl⟩
           rw [hA] at hcw
           have hAs:A.size≤1000000:=by rw [← hA];exact hFs.out q (by rw [← hqq];exact List.getElem_mem _)
           obtain ⟨fa,hfa⟩:∃ fa,zab q.1=fa:=⟨_,rfl⟩
           have HFA:=Lib.hid (show zab A.data.toList=fa by rw [← hA];exact hfa)
           have hnext:(F.take (i0+1)).any (fun x=>zab x.1 == fk)=(b || (fa == fk)):=by rw [any_take_succ _ _ _ hilt,hb.out,hqq,hfa]
           have HNX:=Lib.hid hnext
           have hii:(i0:Int)<(F.length:Int):=by omega
           clear f0 f1 hc0 hA hfa hnext hqq
           rcases htb:(tw || b) with _ | _
           ·go_wp2_with (go_at_call 64;first | ((with_reducible refine (zpj A fa HFA.out _ hAs).mono ?_);rintro e w6 ⟨rfl,hb6⟩) | ((with_reducible refine (zpj K fk HFK.out _ (by omega)).mono ?_);rintro e w7 ⟨rfl,hb7⟩))
            go_roundw
            case rel=>exact ⟨i0+1,b || (fa == fk),by go_num,by omega,by rw [← Bool.or_assoc,htb,Bool.false_or],HNX,Lib.hid ((hbw.out.trans (hb6.mono hbw.out.size)).trans (hb7.mono (Nat.le_trans hbw.out.size hb6.size)))⟩
            case measure=>simp [intOf];omega
           ·go_wp2
            go_roundw
            case rel=>exact ⟨i0+1,_,by go_num,by omega,by rw [← Bool.or_assoc,htb];rfl,HNX,hbw⟩
            case measure=>simp [intOf];omega
          ·obtain rfl:i0=F.length:=by omega
           have hw0:w.heap.size≤W0.heap.size:=hbel.out.size
           have hb2:=hb.out
           rw [List.take_length] at hb2
           have hstep:=HST.out b (show (F.any fun x=>zab p1 == zab x.1)=b by rw [z0t,HFK2.out];exact hb2)
           have hvv:=hVV.out
           rw [hstep] at hvv
           have HVN:=Lib.hid hvv
           have HOW:=Lib.hid (own_below hown.out hbw.out)
           have hwi:w.heap.size≤wr.heap.size:=Nat.le_trans hw0 hbw.out.size
           have HBI:=Lib.hid (hbel.out.trans (hbw.out.mono hw0))
           have hii:¬ (F.length:Int)<(F.length:Int):=by omega
           obtain ⟨k2,hk2⟩:∃ k2,endW zal l j=k2:=⟨_,rfl⟩
           have hk2l:k2≤s.size:=by rw [← hk2,← HLL.out];exact zkt _ _ _ (by rw [HLL.out];exact hjn)
           have hk2g:j≤k2:=by rw [← hk2];exact zn7 _ _ _
           have hk2d:l.drop k2=r2.dropWhile zal:=by rw [← hk2,zgm,HR2.out]
           have HK2D:=Lib.hid hk2d
           rw [← HL.out] at hk2
           have HK2:=Lib.hid hk2
           have hjr:s.size - j=r2.length:=by rw [← HR2.out,List.length_drop,HLL.out]
           clear hk2d hk2 hb2 hstep hvv
           go_wp2_with (first | (at_builtin;refine zx7 (by rfl) _ _ _ (by rfl) 114 _ 2 32 Tryz.underlying110 zpl (by rfl) (by omega) w.heap.size wr _ _ _ (by rfl) HOW.out [.string K,.string X] (by rfl) (by simp [Value.oneCell']) (by rfl) (by omega) (by omega) hwi ?_;intro gg cap w8 hgg hown8 hgr8 hb8 hsz8;have HO8:=Lib.hid hown8;have HB8:=Lib.hid (HBI.out.trans hb8);clear hown8 hgr8) | (go_at_call 115;refine (zeg s _ j k2 HK2.out _ (by omega) hsm hjn).mono ?_;rintro e w9 ⟨rfl,rfl⟩))
           go_roundw
           case rel=>exact ⟨n,k2,r2,F++[(p1,v)],_,rfl,rfl,hk2l,by omega,by rw [HLP.out];omega,HK2D,HFS2,HVN,Lib.hid (by rw [HSN.out,HLP.out];exact HO8.out),HB8⟩
           case measure=>simp [intOf];omega
       ·obtain ⟨rfl,l4l⟩:=zte hs2
        rw [HLL.out] at l4l
        have HB34:=Lib.hid (show begL s.data.toList (ByteArray.mk #[34]).data.toList (tq+1)=true by rw [HL.out];show begL l [34] (tq+1)=true;rw [hb34,hs2];rfl)
        rw [hs2] at hpar
        dsimp only at hpar
        rw [← zyq] at hpar
        rcases hqd:zet l (tq+1+1) with _ | ⟨v,r2⟩
        ·have HQD:=Lib.hid (show zet s.data.toList (tq+2)=none by rw [HL.out];exact hqd)
         have hVf:=HFORM.out (by rw [hpar,hqd];rfl)
         subst hVf
         clear hpar hn hKd hKp hb61 hs1 hs2 hb34 hqd
         go_wp2_with (first | (go_at_call 115;refine (zeg s _ (k+1) a1 HA1.out _ (by omega) hsm (by omega)).mono ?_;rintro e w1 ⟨rfl,rfl⟩;clear HA1) | (go_at_call 116;refine (zls s _ a1 tq HTO.out _ (by rfl) hsm la1).mono ?_;rintro e w1 ⟨rfl,rfl⟩;clear HTO) | (go_at_call 49;refine (zix K true HN.out _ hKm).mono ?_;rintro e w1 ⟨rfl,rfl⟩) | (go_at_call 60;refine (zfy s ⟨#[61]⟩ _ tq true HB61.out _ (by rfl) hsm (by decide) (by omega)).mono ?_;rintro e w1 ⟨rfl,rfl⟩;clear HB61) | (go_at_call 60;refine (zfy s ⟨#[34]⟩ _ (tq+1) true HB34.out _ (by omega) hsm (by decide) (by omega)).mono ?_;rintro e w1 ⟨rfl,rfl⟩;clear HB34) | (go_at_call 117;refine (zw6 s _ (tq+2) none HQD.out _ (by omega) hsm (by omega)).mono ?_;rintro e w1 ⟨rfl,rfl⟩))
         go_ret3
         exact ⟨rfl,hbel.out⟩
        ·have HQD:=Lib.hid (show zet s.data.toList (tq+2)=some (v,r2) by rw [HL.out];exact hqd)
         rw [hqd] at hpar
         replace hpar:zjr (l.drop (k+1))=some ((p1,v),r2):=hpar
         obtain ⟨X,hXp⟩:∃ X:ByteArray,(⟨v.toArray⟩:ByteArray)=X:=⟨_,rfl⟩
         clear hn hb61 hs1 hs2 hb34 hqd
         obtain ⟨a8,cap8,rfl,hsl⟩:∃ a8 cap8,u8=.slice a8 F.length cap8∧(F.length=0∨∃ g,a8=some ⟨g,0,none⟩∧w.heap.size≤g∧g<wr.heap.size∧F.length≤cap8):=by
          rcases zhd hown.out with ⟨h,h0⟩ | ⟨g,cap,h,h1,h2,h3⟩
          ·exact ⟨none,0,by rw [h,h0],.inl h0⟩
          ·exact ⟨_,_,h,.inr ⟨g,rfl,h1,h2,h3⟩⟩
         have hsl8:=Lib.hid hsl
         clear hsl
         rename World=>W0
         obtain ⟨hrl,hpl,hpv⟩:=zk6 hpar
         dsimp only at hrl hpl hpv
         rw [List.length_drop,HLL.out] at hrl hpl hpv
         have hFl:F.length≤10000:=by omega
         have hFs2:∀ x∈F++[(p1,v)],x.1.length≤1000000:=by
          intro x hx
          rcases List.mem_append.1 hx with h | h
          ·exact hFs.out x h
          ·rw [List.mem_singleton.1 h];dsimp only;omega
         have hsnoc:zai (F++[(p1,v)])=zai F++[.string K,.string X]:=by rw [zcp];dsimp only;rw [hKp,hXp]
         have hlp:(F++[(p1,v)]).length=F.length+1:=by rw [List.length_append];rfl
         have hkn:=fun b hb=>zn3 n r (l.drop (k+1)) r2 (p1,v) F tw b HNE.out HSG.out hpar hb
         have HST:=Lib.hid hkn;have HSN:=Lib.hid hsnoc;have HLP:=Lib.hid hlp;have HFS2:=Lib.hid hFs2;have HXP:=Lib.hid hXp
         obtain ⟨fk,hfk⟩:∃ fk,zab p1=fk:=⟨_,rfl⟩
         have HFK:=Lib.hid (show zab K.data.toList=fk by rw [hKd];exact hfk)
         have HFK2:=Lib.hid hfk
         clear hpar hFs2 hsnoc hlp hkn hXp hKd hKp hfk
         go_wp2_with (first | (go_at_call 115;refine (zeg s _ (k+1) a1 HA1.out _ (by omega) hsm (by omega)).mono ?_;rintro e w1 ⟨rfl,rfl⟩;clear HA1) | (go_at_call 116;refine (zls s _ a1 tq HTO.out _ (by rfl) hsm la1).mono ?_;rintro e w1 ⟨rfl,rfl⟩;clear HTO) | (go_at_call 49;refine (zix K true HN.out _ hKm).mono ?_;rintro e w1 ⟨rfl,rfl⟩) | (go_at_call 60;refine (zfy s ⟨#[61]⟩ _ tq true HB61.out _ (by rfl) hsm (by decide) (by omega)).mono ?_;rintro e w1 ⟨rfl,rfl⟩;clear HB61) | (go_at_call 60;refine (zfy s ⟨#[34]⟩ _ (tq+1) true HB34.out _ (by omega) hsm (by decide) (by omega)).mono ?_;rintro e w1 ⟨rfl,rfl⟩;clear HB34) | (go_at_call 117;refine (zw6 s _ (tq+2) (some (v,r2)) HQD.out _ (by omega) hsm (by omega)).mono ?_;rintro e w1 ⟨j,rfl,hjn,hr2,rfl⟩;rw [HXP.out];have hj0:(0:Int)≤(j:Int):=(by omega);have HR2:=Lib.hid hr2.out;rw [HL.out] at HR2))
         go_loopw [9,12] (fun t i wr=>∃ (i0:Nat) (b:Bool),i=.int .i64 i0∧i0≤F.length∧t=.bool (tw || b)∧Hid ((F.take i0).any (fun x=>zab x.1 == fk)=b)∧Hid (Below W0.heap.size W0 wr))
          (fun _ i _=>F.length - (intOf i).toNat)
         case atStart=>exact ⟨0,false,rfl,Nat.zero_le _,by simp,Lib.hid rfl,Lib.hid (Below.refl _ _)⟩
         case round =>
          obtain ⟨i0,b,rfl,hi0,rfl,hb,hbw⟩:=hrel
          by_cases hilt:i0<F.length
          ·obtain ⟨g,rfl,hg0,hgl,hcap⟩:∃ g,a8=some ⟨g,0,none⟩∧w.heap.size≤g∧g<W0.heap.size∧F.length≤cap8:=hsl8.out.resolve_left (by omega)
           obtain ⟨f0,f1⟩:=zmg F i0 hilt
           obtain ⟨q,hqq⟩:∃ q,F[i0]=q:=⟨_,rfl⟩
           rw [hqq] at f0
           have hc0:=hown.out.cellAt (i0 * 2) (by omega)
           rw [f0] at hc0
           have hcw:=(hbw.out.cell (p:=⟨g,i0 * 2,none⟩) hgl).trans hc0
           obtain ⟨A,hA⟩:∃ A:ByteArray,(⟨q.1.toArray⟩:ByteArray)=A:=⟨_,rfl⟩
           rw [hA] at hcw
           have hAs:A.size≤1000000:=by rw [← hA];exact hFs.out q (by rw [← hqq];exact List.getElem_mem _)
           obtain ⟨fa,hfa⟩:∃ fa,zab q.1=fa:=⟨_,rfl⟩
           have HFA:=Lib.hid (show zab A.data.toList=fa by rw [← hA];exact hfa)
           have hnext:(F.take (i0+1)).any (fun x=>zab x.1 == fk)=(b || (fa == fk)):=by rw [any_take_succ _ _ _ hilt,hb.out,hqq,hfa]
           have HNX:=Lib.hid hnext
           have hii:(i0:Int)<(F.length:Int):=by omega
           clear f0 f1 hc0 hA hfa hnext hqq
           rcases htb:(tw || b) with _ | _
           ·go_wp2_with (go_at_call 64;first | ((with_reducible refine (zpj A fa HFA.out _ hAs).mono ?_);rintro e w6 ⟨rfl,hb6⟩) | ((with_reducible refine (zpj K fk HFK.out _ (by omega)).mono ?_);rintro e w7 ⟨rfl,hb7⟩))
            go_roundw
            case rel=>exact ⟨i0+1,b || (fa == fk),by go_num,by omega,by rw [← Bool.or_assoc,htb,Bool.false_or],HNX,Lib.hid ((hbw.out.trans (hb6.mono hbw.out.size)).trans (hb7.mono (Nat.le_trans hbw.out.size hb6.size)))⟩
            case measure=>simp [intOf];omega
           ·go_wp2
            go_roundw
            case rel=>exact ⟨i0+1,_,by go_num,by omega,by rw [← Bool.or_assoc,htb];rfl,HNX,hbw⟩
            case measure=>simp [intOf];omega
          ·obtain rfl:i0=F.length:=by omega
           have hw0:w.heap.size≤W0.heap.size:=hbel.out.size
           have hb2:=hb.out
           rw [List.take_length] at hb2
           have hstep:=HST.out b (show (F.any fun x=>zab p1 == zab x.1)=b by rw [z0t,HFK2.out];exact hb2)
           have hvv:=hVV.out
           rw [hstep] at hvv
           have HVN:=Lib.hid hvv
           have HOW:=Lib.hid (own_below hown.out hbw.out)
           have hwi:w.heap.size≤wr.heap.size:=Nat.le_trans hw0 hbw.out.size
           have HBI:=Lib.hid (hbel.out.trans (hbw.out.mono hw0))
           have hii:¬ (F.length:Int)<(F.length:Int):=by omega
           obtain ⟨k2,hk2⟩:∃ k2,endW zal l j=k2:=⟨_,rfl⟩
           have hk2l:k2≤s.size:=by rw [← hk2,← HLL.out];exact zkt _ _ _ (by rw [HLL.out];exact hjn)
           have hk2g:j≤k2:=by rw [← hk2];exact zn7 _ _ _
           have hk2d:l.drop k2=r2.dropWhile zal:=by rw [← hk2,zgm,HR2.out]
           have HK2D:=Lib.hid hk2d
           rw [← HL.out] at hk2
           have HK2:=Lib.hid hk2
           have hjr:s.size - j=r2.length:=by rw [← HR2.out,List.length_drop,HLL.out]
           clear hk2d hk2 hb2 hstep hvv
           go_wp2_with (first | (at_builtin;refine zx7 (by rfl) _ _ _ (by rfl) 114 _ 2 32 Tryz.underlying110 zpl (by rfl) (by omega) w.heap.size wr _ _ _ (by rfl) HOW.out [.string K,.string X] (by rfl) (by simp [Value.oneCell']) (by rfl) (by omega) (by omega) hwi ?_;intro gg cap w8 hgg hown8 hgr8 hb8 hsz8;have HO8:=Lib.hid hown8;have HB8:=Lib.hid (HBI.out.trans hb8);clear hown8 hgr8) | (go_at_call 115;refine (zeg s _ j k2 HK2.out _ (by omega) hsm hjn).mono ?_;rintro e w9 ⟨rfl,rfl⟩))
           go_roundw
           case rel=>exact ⟨n,k2,r2,F++[(p1,v)],_,rfl,rfl,hk2l,by omega,by rw [HLP.out];omega,HK2D,HFS2,HVN,Lib.hid (by rw [HSN.out,HLP.out];exact HO8.out),HB8⟩
           case measure=>simp [intOf];omega
    ·rw [if_neg h59] at hsg
     have hx:=b59 _ h59
     have hVf:V=.form:=by
      have:=hVV.out
      rw [zos n r F tw hne (by rw [← hq.out];exact hsg)] at this
      exact this
     subst hVf
     clear hsg hne h59
     go_wp2
     go_ret3
     exact ⟨rfl,hbel.out⟩
   ·have hki:¬ (k:Int)<(s.size:Int):=by omega
    have hv:=hVV.out
    rw [zs6 n r F tw (by rw [← hq.out,List.drop_of_length_le (by rw [HLL.out];omega)])] at hv
    rcases tw with _ | _
    ·replace hv:V=.ok m F:=hv
     subst hv
     go_wp2
     go_ret3
     exact ⟨_,by rw [HMM.out];rfl,hown.out,hbel.out⟩
    ·replace hv:V=.twice:=hv
     subst hv
     go_wp2
     go_ret3
     exact ⟨rfl,hbel.out⟩
end Go.Proofs.YtmpiobfdchlikaaGreatDoor
end
section
set_option synthInstance.maxSize 4000
namespace Nun
open Go Go.RowKit
def znk (l:List Nat):List Value:=l.map fun (n:Nat)=>.int .i64 (n:Int)
theorem zuv (l:List Nat) (n:Nat):znk (l++[n])=znk l++[.int .i64 n]:=by simp [znk]
def OwnN (B:Nat) (e:TypeId) (v:Value) (l:List Nat) (w:World):Prop:=w.ownsRow B e 1 v l.length (znk l)
theorem OwnN.kept {B:Nat} {e:TypeId} {v:Value} {l:List Nat} {w w':World} (h:OwnN B e v l w) (k:Below w.heap.size w w'):OwnN B e v l w' :=
 World.ownsRow.kept (row:=none) h ⟨k.os,k.tape,k.output,k.size,fun i hi _=>k.block i hi⟩ (by cases v.ownBlock<;>simp)
theorem OwnN.made {B:Nat} {e:TypeId} (w:World) (hB:B≤w.heap.size) (cap:Nat) (cs:Array Value) (hc:cs.size=cap) (hm:cap≤maxLen):OwnN B e (.slice (some ⟨w.heap.size,0,none⟩) 0 cap) [] (w.alloc (.cells cs e)) :=
 World.ownsRow_made (size:=1) w cs cap hB hm (by omega)
theorem yp7 {P:Program} {ops:Array Oper} {rest:List Oper} {o:Oper} {a:Act} {Q:Exit→Act→World→Prop} (hgd:o.guard=none) (s x:Operand) (t:TypeId)
 (ho:o.op=.call { callee:=.builtin .append,args:=#[s,x],argTypes:=#[t,t] })
 (e:TypeId) (ht:P.underlying t=some (.slice e)) (hi:(P.info? e).map (fun i=>(i.zero,i.size,i.bytes))=some (some (.int .i64 0),1,8))
 (B:Nat) (w:World) (v:Value) (l:List Nat) (hs:a.eval s=v) (hown:OwnN B e v l w) (m:Int) (c:Nat) (hm:m=c)
 (hx:a.eval x=.slice (some ⟨w.heap.size,0,none⟩) 1 1) (hmax:(l.length+1) * 8≤140737488355328) (hB:B≤w.heap.size)
 (h:∀ v' w',OwnN B e v' (l++[c]) w'→w.grownBy w' v.ownBlock→Below B w w'→w.heap.size<w'.heap.size→wpList P ops Q rest (a.put o.dst v') w') :
 wpList P ops Q (o::rest) a (w.alloc (.cells #[.int .i64 m] e)):=by
 subst hm
 exact zx7 hgd s x t ho e (.int .i64 0) 1 8 ht hi rfl (by decide) B w v _ _ hs hown [.int .i64 c] rfl (by simp [Value.oneCell']) hx (by omega) (by omega) hB
  fun g cap w' h1 h2 h3 h4 h5=>h _ w' (by unfold OwnN;rw [zuv,List.length_append];exact h2) h3 h4 h5
def zgn (c:UInt8):List Nat:=[c.toNat / 128 % 2,c.toNat / 64 % 2,c.toNat / 32 % 2,c.toNat / 16 % 2,c.toNat / 8 % 2,c.toNat / 4 % 2,c.toNat / 2 % 2,c.toNat % 2]
def zgo (l:List UInt8):List Nat:=l.flatMap zgn
theorem z22 (l:List UInt8) (c:UInt8):zgo (l++[c])=zgo l++zgn c:=by unfold zgo;rw [List.flatMap_append];simp
theorem zw7 (l:List UInt8):(zgo l).length=8 * l.length:=by
 induction l with
 | nil=>rfl
 | cons c l ih=>show (zgn c++zgo l).length=_;rw [List.length_append,ih];simp [zgn];omega
def RowN (v:Value) (l:List Nat) (w:World):Prop:=∃ g o cap,v=.slice (some ⟨g,o,none⟩) l.length cap∧l.length≤cap∧g<w.heap.size∧∀ (j x:Nat),l[j]? =some x→w.cell? ⟨g,o+j,none⟩=some (.int .i64 x)
theorem RowN.kept {v:Value} {l:List Nat} {w w':World} (h:RowN v l w) (k:Below w.heap.size w w'):RowN v l w':=by
 obtain ⟨g,o,cap,rfl,hc,hg,hr⟩:=h
 exact ⟨g,o,cap,rfl,hc,Nat.lt_of_lt_of_le hg k.size,fun j x hj=>(k.cell (p:=⟨g,o+j,none⟩) hg).trans (hr j x hj)⟩
def six (l:List Nat):Nat→Nat
 | 0=>0
 | i+1=>2 * six l i+(l[i]?).getD 0
theorem z23 (c:UInt8) (j:Nat) (h:j<8):(zgn c).take (j+1)=(zgn c).take j++[(zgn c).getD j 0]:=by
 rw [List.take_succ_eq_append_getElem (by simpa [zgn] using h)];simp [List.getD,qe (l:=zgn c) (i:=j) (by simpa [zgn] using h)]
end Nun
namespace Go.Proofs.YtmpiobfdchlikaaGreatDoor
open Go.RowKit Nun
theorem z8s:(Tryz.prog.info? 3).map (fun i=>(i.zero,i.size,i.bytes))=some (some (.int .i64 0),1,8):=by kernel_rfl
theorem ydx (s:ByteArray) (w:World) (hs:s.size≤1000000):Calls Tryz.prog 192 #[.string s] w fun e w'=>∃ v,e=.returned v∧OwnN w.heap.size 3 v (zgo s.data.toList) w'∧Below w.heap.size w w':=by
 have hlen:s.data.toList.length=s.size:=rfl
 have HL:=Lib.hid hlen;clear hlen
 go_enter Tryz.func192,Tryz.ntmps192
 go_wp2
 go_loopw [3,4,5] (fun v i _ wr=>∃ (k:Nat),k≤s.size∧i=.int .i64 k∧OwnN w.heap.size 3 v (zgo (s.data.toList.take k)) wr∧Below w.heap.size w wr)
  (fun _ i _ _=>s.size - (intOf i).toNat)
 case atStart=>exact ⟨0,Nat.zero_le _,rfl,OwnN.made w (Nat.le_refl _) _ _ rfl (by decide),(Below.refl _ _).alloc (Nat.le_refl _) _⟩
 case round =>
  obtain ⟨k,hk,rfl,hown,hbel⟩:=hrel
  have hbl:(zgo (s.data.toList.take k)).length≤8 * k:=by rw [zw7,List.length_take];omega
  by_cases hlt:k<s.size
  ·have hst:zgo (s.data.toList.take (k+1))=zgo (s.data.toList.take k)++zgn s[k]:=by
    rw [zm4 _ _ (by rw [HL.out];exact hlt),z22];rfl
   generalize zgo (s.data.toList.take k)=acc at *
   have HS:=Lib.hid hst;clear hst
   have hc8:=s[k].toNat_lt
   go_wp2
   go_loopw [3,5] (fun v q wr1=>∃ (j:Nat),j≤8∧q=.int .i64 ((128 / 2 ^ j:Nat):Int)∧OwnN w.heap.size 3 v (acc++(zgn s[k]).take j) wr1∧Below w.heap.size w wr1)
    (fun _ q _=>(intOf q).toNat)
   case atStart=>exact ⟨0,by omega,rfl,by simpa using hown,hbel⟩
   case round =>
    clear hown hbel
    obtain ⟨j,hj,rfl,hown,hbel⟩:=hrel
    by_cases hj8:j<8
    ·obtain ⟨b,hb⟩:∃ b,(zgn s[k]).getD j 0=b:=⟨_,rfl⟩
     have hsn:=z23 s[k] j hj8
     rw [hb] at hsn
     have hsn':=Lib.hid (show acc++(zgn s[k]).take (j+1)=acc++(zgn s[k]).take j++[b] by rw [hsn,List.append_assoc]);clear hsn
     have hl:((acc++(zgn s[k]).take j).length+1) * 8≤140737488355328:=by
      rw [List.length_append,List.length_take];omega
     have HB:=Lib.hid hb;clear hb
     have hl':=Lib.hid hl;clear hl
     obtain rfl | rfl | rfl | rfl | rfl | rfl | rfl | rfl:j=0∨j=1∨j=2∨j=3∨j=4∨j=5∨j=6∨j=7:=by omega
     all_goals
      go_wp2_with (at_builtin;refine yp7 (by rfl) _ _ _ (by rfl) 3 Tryz.underlying147 z8s w.heap.size wr _ _ (by rfl) hown _ b (by rw [← HB.out];simp [zgn]) (by rfl) hl'.out hbel.size ?_;intro v1 w1 hown1 hgr hb1 hsz1)
      go_roundw
      case rel =>
       have hrow:=hown1
       rw [← hsn'.out] at hrow
       first | exact ⟨1,by omega,by go_num,hrow,hbel.trans hb1⟩ | exact ⟨2,by omega,by go_num,hrow,hbel.trans hb1⟩ | exact ⟨3,by omega,by go_num,hrow,hbel.trans hb1⟩ | exact ⟨4,by omega,by go_num,hrow,hbel.trans hb1⟩ | exact ⟨5,by omega,by go_num,hrow,hbel.trans hb1⟩ | exact ⟨6,by omega,by go_num,hrow,hbel.trans hb1⟩ | exact ⟨7,by omega,by go_num,hrow,hbel.trans hb1⟩ | exact ⟨8,by omega,by go_num,hrow,hbel.trans hb1⟩
      case measure=>simp [intOf]
    ·obtain rfl:j=8:=by omega
     have he:acc++(zgn s[k]).take 8=zgo (s.data.toList.take (k+1)):=by rw [HS.out];rfl
     rw [he] at hown
     clear he
     go_wp2
     go_roundw
     case rel=>exact ⟨k+1,by omega,by go_num,hown,hbel⟩
     case measure=>simp [intOf];omega
  ·obtain rfl:k=s.size:=by omega
   rw [List.take_of_length_le (by rw [HL.out];exact Nat.le_refl _)] at hown
   go_wp2
   go_ret
   exact ⟨_,rfl,hown,hbel⟩
end Go.Proofs.YtmpiobfdchlikaaGreatDoor
end
section
set_option synthInstance.maxSize 4000
namespace Nun
theorem yp8 (l:List Nat) (hl:∀ x∈l,x≤1) (i:Nat):six l i<2 ^ i:=by
 induction i with
 | zero=>simp [six]
 | succ i ih =>
   have:(l[i]?).getD 0≤1:=by
    rcases h:l[i]? with _ | x
    ·simp
    ·exact hl x (List.mem_of_getElem? h)
   rw [six,Nat.pow_succ];omega
theorem z0u (l:List Nat) (hl:∀ x∈l,x≤1) (i:Nat) (hi:i≤6):six l i<64:=Nat.lt_of_lt_of_le (yp8 l hl i) (Nat.pow_le_pow_right (n:=2) (by decide) hi)
def digs (l:List Nat):List UInt8:=if h:0<l.length then dig (six l 6)::digs (l.drop 6) else []
termination_by l.length
decreasing_by simp;omega
theorem znl {l:List Nat} (h:0<l.length):digs l=dig (six l 6)::digs (l.drop 6):=by rw [digs,dif_pos h]
theorem znm:digs []=[]:=by rw [digs,dif_neg (by simp)]
theorem ydy (n:Nat):∀ l:List Nat,l.length≤n→(digs l).length≤l.length:=by
 induction n with
 | zero=>intro l h
         have:l=[]:=qz (by omega)
         subst this;simp [znm]
 | succ n ih =>
   intro l h
   by_cases h0:0<l.length
   ·rw [znl h0,List.length_cons]
    have:=ih (l.drop 6) (by rw [List.length_drop];omega)
    rw [List.length_drop] at this;omega
   ·rw [digs,dif_neg h0];simp
theorem z25 (l:List UInt8):∀ x∈zgo l,x≤1:=by
 intro x h
 unfold zgo at h
 obtain ⟨c,_,hc⟩:=List.mem_flatMap.1 h
 simp [zgn] at hc
 omega
def zh9 (l:List UInt8):List UInt8:=l++List.replicate ((4 - l.length % 4) % 4) 61
theorem yj1:∀ i:Fin 64,((⟨zey.toArray⟩:ByteArray).extract i.1 (i.1+1)).data.toList=[dig i.1]:=by decide +kernel
end Nun
namespace Go.Proofs.YtmpiobfdchlikaaGreatDoor
open Go.RowKit Nun
theorem zth (w:World):Calls Tryz.prog 219 #[] w (Same (.string ⟨zey.toArray⟩) w):=by
 go_enter Tryz.func219,Tryz.ntmps219
 go_wp2
 go_ret
 exact ⟨rfl,rfl⟩
theorem zrw (g o cap n:Nat) (l:List Nat) (hn:n=l.length) (w:World) (hr:∀ (j x:Nat),l[j]? =some x→w.cell? ⟨g,o+j,none⟩=some (.int .i64 x)) (hb:∀ x∈l,x≤1) (hc:n≤1000000000) :
 Calls Tryz.prog 193 #[.slice (some ⟨g,o,none⟩) n cap] w (Same (.string ⟨#[dig (six l 6)]⟩) w):=by
 have HR:=Lib.hid hr;clear hr
 have HB:=Lib.hid hb;clear hb
 have HN:=Lib.hid hn;clear hn
 have hx:=yj1 ⟨six l 6,z0u l HB.out 6 (by decide)⟩
 have HX:=Lib.hid hx;clear hx
 go_enter Tryz.func193,Tryz.ntmps193
 go_wp2
 go_loopw [3,4] (fun m i wr=>∃ (k:Nat),k≤6∧i=.int .i64 k∧m=.int .i64 (six l k)∧wr=w)
  (fun _ i _=>6 - (intOf i).toNat)
 case atStart=>exact ⟨0,by omega,rfl,rfl,rfl⟩
 case round =>
  obtain ⟨k,hk,rfl,rfl,rfl⟩:=hrel
  have h64:=z0u l HB.out k hk
  by_cases h6:k<6
  ·by_cases hkn:k<n
   ·obtain ⟨x,hx⟩:∃ x,l[k]? =some x:=⟨_,qe (by rw [← HN.out];exact hkn)⟩
    have hcell:=HR.out k x hx
    have hx1:=HB.out x (List.mem_of_getElem? hx)
    have hsx:((six l (k+1):Nat):Int)=2 * six l k+x:=by rw [six,hx];simp
    have HS:=Lib.hid hsx;clear hsx hx
    go_wp2
    go_roundw
    case rel=>exact ⟨k+1,by omega,by go_num,vi (by rw [HS.out]),trivial⟩
    case measure=>simp [intOf];omega
   ·have hsx:((six l (k+1):Nat):Int)=2 * six l k:=by rw [six,List.getElem?_eq_none (by rw [← HN.out];omega)];simp
    have HS:=Lib.hid hsx;clear hsx
    go_wp2
    go_roundw
    case rel=>exact ⟨k+1,by omega,by go_num,vi (by rw [HS.out]),trivial⟩
    case measure=>simp [intOf];omega
  ·obtain rfl:k=6:=by omega
   have hds:(ByteArray.mk zey.toArray).size=64:=rfl
   go_wp2_with (go_at_call 219;refine (zth _).mono ?_;rintro e w' ⟨rfl,rfl⟩)
   go_ret
   exact ⟨r1 (vS HX.out),rfl⟩
theorem z8t {B:Nat} {e:TypeId} {v:Value} {l:List Nat} {w:World} (h:OwnN B e v l w):(v=.slice none 0 0∧l=[])∨∃ g cap,v=.slice (some ⟨g,0,none⟩) l.length cap∧l.length≤cap∧∀ (j x:Nat),l[j]? =some x→w.cell? ⟨g,0+j,none⟩=some (.int .i64 x):=by
 rcases h.2 with ⟨hv,h0⟩ | ⟨g,cap,cur,rfl,hg,hh,hc,_⟩
 ·exact .inl ⟨hv,qz h0⟩
 ·refine .inr ⟨g,cap,rfl,hc,fun j x hj=>?_⟩
  have:=World.ownsRow.cells h (g:=g) rfl j (.int .i64 x) (by simp [znk,hj])
  have ha:(⟨g,0,none⟩:Addr).add j=⟨g,0+j,none⟩:=by unfold Addr.add;split<;>simp_all
  rw [ha] at this;exact this
theorem yp9 (g o k:Nat):(⟨g,o,none⟩:Addr).add k=⟨g,o+k,none⟩:=by unfold Addr.add;split<;>simp_all
theorem z26 (s:ByteArray) (w:World) (hs:s.size≤1000000):Calls Tryz.prog 155 #[.string s] w (Ret (.string ⟨(zh9 (digs (zgo s.data.toList))).toArray⟩) w):=by
 have hlen:(zgo s.data.toList).length=8 * s.size:=zw7 _
 have hbit:=z25 s.data.toList
 have hds:=ydy (8 * s.size) (zgo s.data.toList) (by omega)
 have hbits:=ydx s w hs
 generalize zgo s.data.toList=L at *
 have HBI:=Lib.hid hbits;have HB:=Lib.hid hbit;clear hbits hbit
 go_enter Tryz.func155,Tryz.ntmps155
 go_wp2_with (go_at_call 192;refine HBI.out.mono ?_;rintro e w1 ⟨v,rfl,hown,hb1⟩)
 obtain ⟨a0,n0,cap0,rfl,hn0,hc0,hr0⟩:∃ a0 n0 cap0,v=.slice a0 n0 cap0∧n0=L.length∧n0≤cap0∧(n0=0∨∃ g o,a0=some ⟨g,o,none⟩∧∀ (j x:Nat),L[j]? =some x→w1.cell? ⟨g,o+j,none⟩=some (.int .i64 x)):=by
  rcases z8t hown with ⟨rfl,rfl⟩ | ⟨g,cap,rfl,hc,hr⟩
  ·exact ⟨_,_,_,rfl,rfl,Nat.le_refl _,.inl rfl⟩
  ·exact ⟨_,_,_,rfl,rfl,hc,.inr ⟨g,0,rfl,hr⟩⟩
 clear hown
 have HR0:=Lib.hid hr0;clear hr0
 have hn8:n0≤8000000:=by omega
 have HN0:=Lib.hid hn0;clear hn0 hlen
 go_loopw [3,4] (fun v t wr=>∃ (M:List Nat) (acc:List UInt8) (a:Option Addr) (n cap:Nat),v=.slice a n cap∧t=.string ⟨acc.toArray⟩∧wr=w1∧n=M.length∧n≤cap∧acc.length+n≤8000000∧Hid (∀ x∈M,x≤1)∧Hid (digs L=acc++digs M)∧Hid (n=0∨∃ g o,a=some ⟨g,o,none⟩∧∀ (j x:Nat),M[j]? =some x→w1.cell? ⟨g,o+j,none⟩=some (.int .i64 x)))
  (fun v _ _=>match v with | .slice _ n _=>n | _=>0)
 case atStart=>exact ⟨L,[],a0,n0,cap0,rfl,rfl,rfl,HN0.out,hc0,by simpa using hn8,HB,Lib.hid rfl,HR0⟩
 case round =>
  obtain ⟨M,acc,a,n,cap,rfl,rfl,rfl,hn,hcap,hn8,HM,hd,hr⟩:=hrel
  by_cases hlt:0<n
  ·rcases hr.out with h | ⟨g,o,rfl,hcell⟩
   ·omega
   have hmore:=znl (l:=M) (by omega)
   have hmin:min 6 ((n:Nat):Int)=((min 6 n:Nat):Int):=by omega
   have hK1:1≤min 6 n:=by omega
   have hK2:min 6 n≤n:=by omega
   have hK3:min 6 n≤6:=by omega
   have hKc:min 6 n=6∨min 6 n=n:=by omega
   have hM:=Lib.hid hn;clear hn
   generalize min 6 n=K at *
   have hmore':=Lib.hid hmore;clear hmore hr
   have hcell':=Lib.hid hcell;clear hcell
   have hadd:=yp9 g o K
   have hsz1:(ByteArray.mk acc.toArray).size=acc.length:=rfl
   have hsz2:(ByteArray.mk #[dig (six M 6)]).size=1:=rfl
   by_cases hcK:cap=K
   ·subst hcK
    go_wp2_with (go_at_call 193;refine (zrw g o _ n M hM.out _ hcell'.out HM.out (by omega)).mono ?_;rintro e w' ⟨rfl,rfl⟩)
    go_roundw
    case rel =>
     refine ⟨M.drop 6,acc++[dig (six M 6)],_,_,_,rfl,vS (by simp [ByteArray.toList_data_append]),trivial,?_,by omega,?_,Lib.hid (fun x hx=>HM.out x (List.mem_of_mem_drop hx)),Lib.hid (by rw [hd.out,hmore'.out];simp),Lib.hid (.inl (by omega))⟩
     ·rw [List.length_drop,← hM.out];omega
     ·simp;omega
    case measure=>simp;omega
   ·go_wp2_with (go_at_call 193;refine (zrw g o _ n M hM.out _ hcell'.out HM.out (by omega)).mono ?_;rintro e w' ⟨rfl,rfl⟩)
    go_roundw
    case rel =>
     refine ⟨M.drop 6,acc++[dig (six M 6)],_,_,_,rfl,vS (by simp [ByteArray.toList_data_append]),trivial,?_,by omega,?_,Lib.hid (fun x hx=>HM.out x (List.mem_of_mem_drop hx)),Lib.hid (by rw [hd.out,hmore'.out];simp),Lib.hid ?_⟩
     ·rw [List.length_drop,← hM.out];omega
     ·simp;omega
     ·rcases hKc with h6 | hKn
      ·refine .inr ⟨g,o+K,by simp [hadd],fun j x hj=>?_⟩
       rw [List.getElem?_drop] at hj
       have:=hcell'.out _ _ hj
       rw [← this,h6];congr 2;omega
      ·exact .inl (by omega)
    case measure=>simp;omega
  ·have hM0:M=[]:=qz (by omega)
   have hD:digs L=acc:=by rw [hd.out,hM0,znm];simp
   have HD:=Lib.hid hD;clear hD
   have hpad:zh9 (digs L)=acc++List.replicate ((4 - acc.length % 4) % 4) 61:=by rw [HD.out];rfl
   have HP:=Lib.hid hpad;clear hpad
   go_wp2
   go_loopw [4] (fun t wr1=>∃ (i:Nat) (u:ByteArray),i≤(4 - acc.length % 4) % 4∧t=.string u∧u.size=acc.length+i∧Hid (u.data.toList=acc++List.replicate i 61)∧wr1=wr)
    (fun t _=>match t with | .string b=>acc.length+4 - b.size | _=>0)
   case atStart=>exact ⟨0,_,by omega,rfl,rfl,Lib.hid (by simp),rfl⟩
   case round =>
    obtain ⟨i,u,hi,rfl,hu,hul,rfl⟩:=hrel
    by_cases hip:i<(4 - acc.length % 4) % 4
    ·have hne:¬ ((acc.length:Int)+i) % 4=0:=by omega
     go_wp2
     go_roundw
     case rel=>exact ⟨i+1,_,by omega,rfl,by rw [ByteArray.size_append,hu];rfl,Lib.hid (by rw [ByteArray.toList_data_append,hul.out,List.replicate_succ',List.append_assoc]),trivial⟩
     case measure =>
      have h1:(ByteArray.mk #[61]).size=1:=rfl
      simp only [ByteArray.size_append,h1];omega
    ·have hne:((acc.length:Int)+i) % 4=0:=by omega
     have hip':i=(4 - acc.length % 4) % 4:=by omega
     have hfin:u.data.toList=zh9 (digs L):=by rw [hul.out,HP.out,hip']
     have HF:=Lib.hid hfin;clear hfin hip'
     go_wp2
     go_ret
     exact ⟨r1 (vS HF.out),hb1⟩
end Go.Proofs.YtmpiobfdchlikaaGreatDoor
end
section
namespace Nun
theorem zuw:∀ a:UInt8,32 * (a.toNat / 128 % 2)+16 * (a.toNat / 64 % 2)+8 * (a.toNat / 32 % 2)+4 * (a.toNat / 16 % 2)+2 * (a.toNat / 8 % 2)+a.toNat / 4 % 2=a.toNat / 4:=by decide +kernel
theorem zux:∀ a:UInt8,2 * (a.toNat / 2 % 2)+a.toNat % 2=a.toNat % 4:=by decide +kernel
theorem z0v:∀ a:UInt8,8 * (a.toNat / 128 % 2)+4 * (a.toNat / 64 % 2)+2 * (a.toNat / 32 % 2)+a.toNat / 16 % 2=a.toNat / 16:=by decide +kernel
theorem z0w:∀ a:UInt8,8 * (a.toNat / 8 % 2)+4 * (a.toNat / 4 % 2)+2 * (a.toNat / 2 % 2)+a.toNat % 2=a.toNat % 16:=by decide +kernel
theorem ydz:∀ a:UInt8,2 * (a.toNat / 128 % 2)+a.toNat / 64 % 2=a.toNat / 64:=by decide +kernel
theorem yd0:∀ a:UInt8,32 * (a.toNat / 32 % 2)+16 * (a.toNat / 16 % 2)+8 * (a.toNat / 8 % 2)+4 * (a.toNat / 4 % 2)+2 * (a.toNat / 2 % 2)+a.toNat % 2=a.toNat % 64:=by decide +kernel
theorem zoa (c:UInt8) (l:List UInt8):zgo (c::l)=zgn c++zgo l:=rfl
theorem num3 (a b c:UInt8) (l:List UInt8):num (a::b::c::l) 3=(a.toNat * 256+b.toNat) * 256+c.toNat:=by simp [num]
theorem num2 (a b:UInt8):num [a,b] 3=(a.toNat * 256+b.toNat) * 256:=by simp [num]
theorem num1 (a:UInt8):num [a] 3=a.toNat * 256 * 256:=by simp [num]
theorem zjp (x0 x1 x2 x3 x4 x5:Nat) (l:List Nat):digs (x0::x1::x2::x3::x4::x5::l)=dig (32 * x0+16 * x1+8 * x2+4 * x3+2 * x4+x5)::digs l:=by
 rw [znl (by simp)]
 have:six (x0::x1::x2::x3::x4::x5::l) 6=32 * x0+16 * x1+8 * x2+4 * x3+2 * x4+x5:=by simp [six];omega
 rw [this];rfl
theorem z27 (a b c:UInt8) (l:List UInt8):digs (zgo (a::b::c::l))=quad (a::b::c::l)++digs (zgo l):=by
 have ha:=a.toNat_lt;have hb:=b.toNat_lt;have hc:=c.toNat_lt
 rw [zoa,zoa,zoa]
 unfold zgn
 simp only [List.cons_append,List.nil_append]
 rw [zjp,zjp,zjp,zjp]
 unfold quad
 rw [if_neg (by simp),if_neg (by simp),num3]
 have e0:((a.toNat * 256+b.toNat) * 256+c.toNat) / 262144 % 64=a.toNat / 4:=by omega
 have e1:((a.toNat * 256+b.toNat) * 256+c.toNat) / 4096 % 64=16 * (a.toNat % 4)+b.toNat / 16:=by omega
 have e2:((a.toNat * 256+b.toNat) * 256+c.toNat) / 64 % 64=4 * (b.toNat % 16)+c.toNat / 64:=by omega
 have e3:((a.toNat * 256+b.toNat) * 256+c.toNat) % 64=c.toNat % 64:=by omega
 rw [e0,e1,e2,e3]
 have h0:=zuw a;have h1:=zux a;have h2:=z0v b;have h3:=z0w b;have h4:=ydz c;have h5:=yd0 c
 simp only [List.cons_append,List.nil_append,List.cons.injEq]
 refine ⟨by congr 1,by congr 1;omega,by congr 1;omega,by congr 1,trivial⟩
theorem z0x (l:List Nat) (h:0<l.length) (h6:l.length≤6):digs l=[dig (six l 6)]:=by
 rw [znl h,List.drop_of_length_le h6,znm]
theorem z28 (x y:List UInt8) (h:x.length=4):zh9 (x++y)=x++zh9 y:=by
 unfold zh9;rw [List.length_append,h,show (4+y.length) % 4=y.length % 4 by omega,List.append_assoc]
theorem yrp (a:UInt8):zh9 (digs (zgo [a]))=quad [a]:=by
 have ha:=a.toNat_lt
 have h0:=zuw a;have h1:=zux a
 show zh9 (digs (zgn a))=_
 unfold zgn
 rw [zjp,z0x _ (by simp) (by simp)]
 have e:six [a.toNat / 2 % 2,a.toNat % 2] 6=16 * (a.toNat % 4):=by simp [six];omega
 rw [e,h0]
 unfold quad
 rw [if_pos (by simp),if_pos (by simp),num1]
 have e0:a.toNat * 256 * 256 / 262144 % 64=a.toNat / 4:=by omega
 have e1:a.toNat * 256 * 256 / 4096 % 64=16 * (a.toNat % 4):=by omega
 rw [e0,e1];rfl
theorem yrq (a b:UInt8):zh9 (digs (zgo [a,b]))=quad [a,b]:=by
 have ha:=a.toNat_lt;have hb:=b.toNat_lt
 have h0:=zuw a;have h1:=zux a;have h2:=z0v b;have h3:=z0w b
 show zh9 (digs (zgn a++zgn b))=_
 unfold zgn
 simp only [List.cons_append,List.nil_append]
 rw [zjp,zjp,z0x _ (by simp) (by simp)]
 have e:six [b.toNat / 8 % 2,b.toNat / 4 % 2,b.toNat / 2 % 2,b.toNat % 2] 6=4 * (b.toNat % 16):=by simp [six];omega
 rw [e,h0]
 unfold quad
 rw [if_neg (by simp),if_pos (by simp),num2]
 have e0:(a.toNat * 256+b.toNat) * 256 / 262144 % 64=a.toNat / 4:=by omega
 have e1:(a.toNat * 256+b.toNat) * 256 / 4096 % 64=16 * (a.toNat % 4)+b.toNat / 16:=by omega
 have e2:(a.toNat * 256+b.toNat) * 256 / 64 % 64=4 * (b.toNat % 16):=by omega
 have f1:32 * (a.toNat / 2 % 2)+16 * (a.toNat % 2)+8 * (b.toNat / 128 % 2)+4 * (b.toNat / 64 % 2)+2 * (b.toNat / 32 % 2)+b.toNat / 16 % 2=16 * (a.toNat % 4)+b.toNat / 16:=by omega
 rw [e0,e1,e2,f1];rfl
theorem yj2 (n:Nat):∀ l:List UInt8,l.length≤n→zh9 (digs (zgo l))=zjf l:=by
 induction n with
 | zero =>
   intro l h
   have:l=[]:=qz (by omega)
   subst this
   show zh9 (digs [])=_
   rw [znm];rfl
 | succ n ih =>
   intro l h
   match l,h with
   | [],_=>show zh9 (digs [])=_;rw [znm];rfl
   | [a],_=>exact yrp a
   | [a,b],_=>exact yrq a b
   | a::b::c::l,h =>
     rw [z27,z28 _ _ rfl,ih l (by simp at h;omega),zss (a::b::c::l) (by simp)];rfl
theorem yd1:∀ i:Fin 64,zdy (dig i.1)=some i.1:=by decide +kernel
theorem zhw {n:Nat} (h:n<64):zdy (dig n)=some n:=yd1 ⟨n,h⟩
theorem yj3:∀ i:Fin 64,dig i.1≠61:=by decide +kernel
theorem yeq {n:Nat} (h:n<64):dig n≠61:=yj3 ⟨n,h⟩
theorem zob {c:UInt8} {n:Nat} (h:zdy c=some n):dig n=c:=by
 have:∀ c:UInt8,(match zdy c with | some n=>dig n == c | none=>true)=true:=by decide +kernel
 have:=this c;rw [h] at this;simpa using this
theorem yer {p0 p1 p2 p3:UInt8} {x0 x1 x2 x3:Nat} (h0:zdy p0=some x0) (h1:zdy p1=some x1) (h2:zdy p2=some x2) (h3:zdy p3=some x3) :
 zfr [p0,p1,p2,p3] 4 4=some (((x0 * 64+x1) * 64+x2) * 64+x3):=by simp [zfr,h0,h1,h2,h3]
theorem yes {p0 p1 p2 p3:UInt8} {x0 x1 x2:Nat} (h0:zdy p0=some x0) (h1:zdy p1=some x1) (h2:zdy p2=some x2) :
 zfr [p0,p1,p2,p3] 3 4=some (((x0 * 64+x1) * 64+x2) * 64):=by simp [zfr,h0,h1,h2]
theorem yet {p0 p1 p2 p3:UInt8} {x0 x1:Nat} (h0:zdy p0=some x0) (h1:zdy p1=some x1) :
 zfr [p0,p1,p2,p3] 2 4=some (((x0 * 64+x1) * 64) * 64):=by simp [zfr,h0,h1]
theorem zoc (x l:List UInt8):zco (quad x++l)=if (zha (quad x) l.isEmpty).2 then (zco l).map ((zha (quad x) l.isEmpty).1++·) else none:=rfl
theorem zo0 (a:UInt8) (n:Nat) (h:n % 256=a.toNat):UInt8.ofNat n=a:=by
 apply UInt8.toNat_inj.1;simp [h]
theorem zys (a b c:UInt8) (l:List UInt8) (last:Bool):zha (quad (a::b::c::l)) last=([a,b,c],true):=by
 have ha:=a.toNat_lt;have hb:=b.toNat_lt;have hc:=c.toNat_lt
 have hq:quad (a::b::c::l)=[dig (num (a::b::c::l) 3 / 262144 % 64),dig (num (a::b::c::l) 3 / 4096 % 64),dig (num (a::b::c::l) 3 / 64 % 64),dig (num (a::b::c::l) 3 % 64)]:=by
  unfold quad;rw [if_neg (by simp),if_neg (by simp)]
 rw [hq,num3]
 generalize hN:(a.toNat * 256+b.toNat) * 256+c.toNat=N
 have hK:zjg [dig (N / 262144 % 64),dig (N / 4096 % 64),dig (N / 64 % 64),dig (N % 64)] last=4:=by
  unfold zjg;rw [if_neg];intro h;exact yeq (n:=N % 64) (by omega) (by simpa using h.2)
 unfold zha
 rw [hK,yer (zhw (by omega)) (zhw (by omega)) (zhw (by omega)) (zhw (by omega))]
 have e:((N / 262144 % 64 * 64+N / 4096 % 64) * 64+N / 64 % 64) * 64+N % 64=N:=by omega
 simp only [e]
 rw [zo0 a (N / 65536) (by omega),zo0 b (N / 256) (by omega),zo0 c N (by omega)]
 simp
 omega
theorem zyt (a b:UInt8):zha (quad [a,b]) true=([a,b],true):=by
 have ha:=a.toNat_lt;have hb:=b.toNat_lt
 have hq:quad [a,b]=[dig (num [a,b] 3 / 262144 % 64),dig (num [a,b] 3 / 4096 % 64),dig (num [a,b] 3 / 64 % 64),61]:=by
  unfold quad;rw [if_neg (by simp),if_pos (by simp)]
 rw [hq,num2]
 generalize hN:(a.toNat * 256+b.toNat) * 256=N
 have hK:zjg [dig (N / 262144 % 64),dig (N / 4096 % 64),dig (N / 64 % 64),61] true=3:=by
  unfold zjg;rw [if_pos (by simp),if_neg];intro h;exact yeq (n:=N / 64 % 64) (by omega) (by simpa using h)
 unfold zha
 rw [hK,yes (zhw (by omega)) (zhw (by omega)) (zhw (by omega))]
 have e:((N / 262144 % 64 * 64+N / 4096 % 64) * 64+N / 64 % 64) * 64=N:=by omega
 simp only [e]
 rw [zo0 a (N / 65536) (by omega),zo0 b (N / 256) (by omega)]
 simp
 omega
theorem zyu (a:UInt8):zha (quad [a]) true=([a],true):=by
 have ha:=a.toNat_lt
 have hq:quad [a]=[dig (num [a] 3 / 262144 % 64),dig (num [a] 3 / 4096 % 64),61,61]:=by
  unfold quad;rw [if_pos (by simp),if_pos (by simp)]
 rw [hq,num1]
 generalize hN:a.toNat * 256 * 256=N
 have hK:zjg [dig (N / 262144 % 64),dig (N / 4096 % 64),61,61] true=2:=by
  unfold zjg;rw [if_pos (by simp),if_pos (by simp)]
 unfold zha
 rw [hK,yet (zhw (by omega)) (zhw (by omega))]
 have e:((N / 262144 % 64 * 64+N / 4096 % 64) * 64) * 64=N:=by omega
 simp only [e]
 rw [zo0 a (N / 65536) (by omega)]
 simp
 omega
theorem yj4 (n:Nat):∀ l:List UInt8,l.length≤n→zco (zjf l)=some l:=by
 induction n with
 | zero =>
   intro l h
   have:l=[]:=qz (by omega)
   subst this;rfl
 | succ n ih =>
   intro l h
   match l,h with
   | [],_=>rfl
   | [a],_=>show zco (quad [a]++[])=_;rw [zoc];rw [show ([]:List UInt8).isEmpty=true from rfl,zyu];rfl
   | [a,b],_=>show zco (quad [a,b]++[])=_;rw [zoc];rw [show ([]:List UInt8).isEmpty=true from rfl,zyt];rfl
   | a::b::c::l,h =>
     show zco (quad [a,b,c]++zjf l)=_
     rw [zoc,zys,ih l (by simp at h;omega)];rfl
theorem z8u (n:Nat) (h:n<16777216):num [UInt8.ofNat (n / 65536),UInt8.ofNat (n / 256),UInt8.ofNat n] 3=n:=by
 rw [num3];simp;omega
theorem yj5 (n:Nat) (h:n<16777216) (h0:n % 256=0):num [UInt8.ofNat (n / 65536),UInt8.ofNat (n / 256)] 3=n:=by
 rw [num2];simp;omega
theorem yj6 (n:Nat) (h:n<16777216) (h0:n % 65536=0):num [UInt8.ofNat (n / 65536)] 3=n:=by
 rw [num1];simp;omega
theorem z8v {p0 p1 p2 p3:UInt8} {last:Bool} (h:zjg [p0,p1,p2,p3] last=2):last=true∧p2=61∧p3=61:=by
 unfold zjg at h;split at h
 ·rename_i h1;split at h
  ·rename_i h2;exact ⟨h1.1,by simpa using h2,by simpa using h1.2⟩
  ·omega
 ·omega
theorem zyv {p0 p1 p2 p3:UInt8} {last:Bool} (h:zjg [p0,p1,p2,p3] last=3):last=true∧p3=61:=by
 unfold zjg at h;split at h
 ·rename_i h1;exact ⟨h1.1,by simpa using h1.2⟩
 ·omega
theorem z8w {p0 p1 p2 p3:UInt8} {last:Bool} {y:List UInt8} (h:zha [p0,p1,p2,p3] last=(y,true)):quad y=[p0,p1,p2,p3]∧y≠[]∧(last=false→∃ a b c,y=[a,b,c]):=by
 unfold zha at h
 rcases h0:zdy p0 with _ | x0
 ·simp [zfr,h0] at h
  rcases zjh [p0,p1,p2,p3] last with hk | hk | hk<;>simp [hk] at h
 rcases h1:zdy p1 with _ | x1
 ·simp [zfr,h0,h1] at h
  rcases zjh [p0,p1,p2,p3] last with hk | hk | hk<;>simp [hk] at h
 have l0:=zhb _ _ h0;have l1:=zhb _ _ h1
 have d0:=zob h0;have d1:=zob h1
 rcases zjh [p0,p1,p2,p3] last with hk | hk | hk
 ·obtain ⟨rfl,rfl,rfl⟩:=z8v hk
  rw [hk,yet h0 h1] at h
  generalize hN:((x0 * 64+x1) * 64) * 64=N at h
  simp only [Prod.mk.injEq,beq_iff_eq] at h
  obtain ⟨hy,h00⟩:=h
  have hy':y=[UInt8.ofNat (N / 65536)]:=hy.symm
  subst hy'
  refine ⟨?_,by simp,by simp⟩
  unfold quad
  rw [if_pos (by simp),if_pos (by simp),yj6 N (by omega) (by simpa using h00),← d0,← d1]
  have e0:N / 262144 % 64=x0:=by omega
  have e1:N / 4096 % 64=x1:=by omega
  rw [e0,e1]
 ·obtain ⟨rfl,rfl⟩:=zyv hk
  rcases h2:zdy p2 with _ | x2
  ·rw [hk] at h;simp [zfr,h0,h1,h2] at h
  have l2:=zhb _ _ h2;have d2:=zob h2
  rw [hk,yes h0 h1 h2] at h
  generalize hN:((x0 * 64+x1) * 64+x2) * 64=N at h
  simp only [Prod.mk.injEq,beq_iff_eq] at h
  obtain ⟨hy,h00⟩:=h
  have hy':y=[UInt8.ofNat (N / 65536),UInt8.ofNat (N / 256)]:=hy.symm
  subst hy'
  refine ⟨?_,by simp,by simp⟩
  unfold quad
  rw [if_neg (by simp),if_pos (by simp),yj5 N (by omega) (by simpa using h00),← d0,← d1,← d2]
  have e0:N / 262144 % 64=x0:=by omega
  have e1:N / 4096 % 64=x1:=by omega
  have e2:N / 64 % 64=x2:=by omega
  rw [e0,e1,e2]
 ·rcases h2:zdy p2 with _ | x2
  ·rw [hk] at h;simp [zfr,h0,h1,h2] at h
  rcases h3:zdy p3 with _ | x3
  ·rw [hk] at h;simp [zfr,h0,h1,h2,h3] at h
  have l2:=zhb _ _ h2;have d2:=zob h2
  have l3:=zhb _ _ h3;have d3:=zob h3
  rw [hk,yer h0 h1 h2 h3] at h
  generalize hN:((x0 * 64+x1) * 64+x2) * 64+x3=N at h
  simp only [Prod.mk.injEq,beq_iff_eq] at h
  obtain ⟨hy,h00⟩:=h
  have hy':y=[UInt8.ofNat (N / 65536),UInt8.ofNat (N / 256),UInt8.ofNat N]:=hy.symm
  subst hy'
  refine ⟨?_,by simp,fun _=>⟨_,_,_,rfl⟩⟩
  unfold quad
  rw [if_neg (by simp),if_neg (by simp),z8u N (by omega),← d0,← d1,← d2,← d3]
  have e0:N / 262144 % 64=x0:=by omega
  have e1:N / 4096 % 64=x1:=by omega
  have e2:N / 64 % 64=x2:=by omega
  have e3:N % 64=x3:=by omega
  rw [e0,e1,e2,e3]
theorem yj7 (n:Nat):∀ l x:List UInt8,l.length≤n→zco l=some x→zjf x=l:=by
 induction n with
 | zero =>
   intro l x h hd
   have:l=[]:=qz (by omega)
   subst this
   simp [zco] at hd;subst hd;rfl
 | succ n ih =>
   intro l x h hd
   match l,h,hd with
   | [],_,hd=>simp [zco] at hd;subst hd;rfl
   | [_],_,hd=>simp [zco] at hd
   | [_,_],_,hd=>simp [zco] at hd
   | [_,_,_],_,hd=>simp [zco] at hd
   | a::b::c::d::l,h,hd =>
     rw [zco] at hd
     rcases hf:zha [a,b,c,d] l.isEmpty with ⟨y,ok⟩
     rw [hf] at hd
     cases ok
     ·simp at hd
     simp only [if_true] at hd
     rcases hz:zco l with _ | z
     ·rw [hz] at hd;simp at hd
     rw [hz] at hd
     simp at hd
     obtain ⟨hq,hne,h3⟩:=z8w hf
     have iz:=ih l z (by simp at h;omega) hz
     subst hd
     rcases hl:l.isEmpty with _ | _
     ·obtain ⟨a',b',c',rfl⟩:=h3 hl
      show quad [a',b',c']++zjf z=_
      rw [hq,iz];rfl
     ·have:l=[]:=by simpa using hl
      subst this
      simp [zco] at hz
      subst hz
      have hlen:=zv6 [a,b,c,d] true
      rw [show ([]:List UInt8).isEmpty=true from rfl] at hf
      rw [hf] at hlen
      rw [List.append_nil,zss y hne,List.drop_of_length_le hlen,hq];rfl
def zgy (n:Nat):List Nat:=[n / 32 % 2,n / 16 % 2,n / 8 % 2,n / 4 % 2,n / 2 % 2,n % 2]
def bitsOf (l:List UInt8):List Nat:=l.flatMap fun c=>match zdy c with | some n=>zgy n | none=>[]
def eight (l:List Nat):Nat→Nat
 | 0=>0
 | i+1=>2 * eight l i+(l[i]?).getD 0
def zfg (l:List Nat):List UInt8:=if h:8≤l.length then UInt8.ofNat (eight l 8)::zfg (l.drop 8) else []
termination_by l.length
decreasing_by simp;omega
theorem zrx {l:List Nat} (h:8≤l.length):zfg l=UInt8.ofNat (eight l 8)::zfg (l.drop 8):=by rw [zfg,dif_pos h]
theorem ziy {l:List Nat} (h:¬ 8≤l.length):zfg l=[]:=by rw [zfg,dif_neg h]
theorem zfh (x0 x1 x2 x3 x4 x5 x6 x7:Nat) (l:List Nat):zfg (x0::x1::x2::x3::x4::x5::x6::x7::l)=UInt8.ofNat (128 * x0+64 * x1+32 * x2+16 * x3+8 * x4+4 * x5+2 * x6+x7)::zfg l:=by
 rw [zrx (by simp)]
 have:eight (x0::x1::x2::x3::x4::x5::x6::x7::l) 8=128 * x0+64 * x1+32 * x2+16 * x3+8 * x4+4 * x5+2 * x6+x7:=by simp [eight];omega
 rw [this];rfl
theorem b6':∀ i:Fin 64,32 * (i.1 / 32 % 2)+16 * (i.1 / 16 % 2)+8 * (i.1 / 8 % 2)+4 * (i.1 / 4 % 2)+2 * (i.1 / 2 % 2)+i.1 % 2=i.1∧2 * (i.1 / 32 % 2)+i.1 / 16 % 2=i.1 / 16∧8 * (i.1 / 32 % 2)+4 * (i.1 / 16 % 2)+2 * (i.1 / 8 % 2)+i.1 / 4 % 2=i.1 / 4∧2 * (i.1 / 2 % 2)+i.1 % 2=i.1 % 4∧8 * (i.1 / 8 % 2)+4 * (i.1 / 4 % 2)+2 * (i.1 / 2 % 2)+i.1 % 2=i.1 % 16:=by decide +kernel
theorem b6 (n:Nat) (h:n<64):32 * (n / 32 % 2)+16 * (n / 16 % 2)+8 * (n / 8 % 2)+4 * (n / 4 % 2)+2 * (n / 2 % 2)+n % 2=n∧2 * (n / 32 % 2)+n / 16 % 2=n / 16∧8 * (n / 32 % 2)+4 * (n / 16 % 2)+2 * (n / 8 % 2)+n / 4 % 2=n / 4∧2 * (n / 2 % 2)+n % 2=n % 4∧8 * (n / 8 % 2)+4 * (n / 4 % 2)+2 * (n / 2 % 2)+n % 2=n % 16:=b6' ⟨n,h⟩
theorem zej (n:Nat) (h:n<64) (l:List UInt8):bitsOf (dig n::l)=zgy n++bitsOf l:=by
 show (match zdy (dig n) with | some n=>zgy n | none=>[])++bitsOf l=_
 rw [zhw h]
theorem zod (l:List UInt8):bitsOf (61::l)=bitsOf l:=rfl
theorem z8x (a b c:UInt8) (l r:List UInt8):zfg (bitsOf (quad (a::b::c::l)++r))=a::b::c::zfg (bitsOf r):=by
 have ha:=a.toNat_lt;have hb:=b.toNat_lt;have hc:=c.toNat_lt
 unfold quad;rw [if_neg (by simp),if_neg (by simp),num3]
 generalize hN:(a.toNat * 256+b.toNat) * 256+c.toNat=N
 simp only [List.cons_append,List.nil_append]
 rw [zej _ (by omega),zej _ (by omega),zej _ (by omega),zej _ (by omega)]
 have q0:N / 262144 % 64 * 4+N / 4096 % 64 / 16=a.toNat:=by omega
 have q1:N / 4096 % 64 % 16 * 16+N / 64 % 64 / 4=b.toNat:=by omega
 have q2:N / 64 % 64 % 4 * 64+N % 64=c.toNat:=by omega
 have k0:=b6 (N / 262144 % 64) (by omega);have k1:=b6 (N / 4096 % 64) (by omega);have k2:=b6 (N / 64 % 64) (by omega);have k3:=b6 (N % 64) (by omega)
 generalize N / 262144 % 64=d0 at *;generalize N / 4096 % 64=d1 at *;generalize N / 64 % 64=d2 at *;generalize N % 64=d3 at *
 unfold zgy
 simp only [List.cons_append,List.nil_append]
 rw [zfh,zfh,zfh]
 rw [zo0 a _ (by omega),zo0 b _ (by omega),zo0 c _ (by omega)]
theorem yj8 (a b:UInt8):zfg (bitsOf (quad [a,b]))=[a,b]:=by
 have ha:=a.toNat_lt;have hb:=b.toNat_lt
 unfold quad;rw [if_neg (by simp),if_pos (by simp),num2]
 generalize hN:(a.toNat * 256+b.toNat) * 256=N
 rw [zej _ (by omega),zej _ (by omega),zej _ (by omega),zod]
 have q0:N / 262144 % 64 * 4+N / 4096 % 64 / 16=a.toNat:=by omega
 have q1:N / 4096 % 64 % 16 * 16+N / 64 % 64 / 4=b.toNat:=by omega
 have k0:=b6 (N / 262144 % 64) (by omega);have k1:=b6 (N / 4096 % 64) (by omega);have k2:=b6 (N / 64 % 64) (by omega)
 generalize N / 262144 % 64=d0 at *;generalize N / 4096 % 64=d1 at *;generalize N / 64 % 64=d2 at *
 unfold zgy
 simp only [List.cons_append,List.nil_append]
 rw [zfh,zfh,ziy (by simp [bitsOf])]
 rw [zo0 a _ (by omega),zo0 b _ (by omega)]
theorem yj9 (a:UInt8):zfg (bitsOf (quad [a]))=[a]:=by
 have ha:=a.toNat_lt
 unfold quad;rw [if_pos (by simp),if_pos (by simp),num1]
 generalize hN:a.toNat * 256 * 256=N
 rw [zej _ (by omega),zej _ (by omega),zod,zod]
 have q0:N / 262144 % 64 * 4+N / 4096 % 64 / 16=a.toNat:=by omega
 have k0:=b6 (N / 262144 % 64) (by omega);have k1:=b6 (N / 4096 % 64) (by omega)
 generalize N / 262144 % 64=d0 at *;generalize N / 4096 % 64=d1 at *
 unfold zgy
 simp only [List.cons_append,List.nil_append]
 rw [zfh,ziy (by simp [bitsOf])]
 rw [zo0 a _ (by omega)]
theorem yka (n:Nat):∀ x:List UInt8,x.length≤n→zfg (bitsOf (zjf x))=x:=by
 induction n with
 | zero =>
   intro l h
   have:l=[]:=qz (by omega)
   subst this;exact ziy (by simp [zjf,bitsOf])
 | succ n ih =>
   intro l h
   match l,h with
   | [],_=>exact ziy (by simp [zjf,bitsOf])
   | [a],_=>exact yj9 a
   | [a,b],_=>exact yj8 a b
   | a::b::c::l,h =>
     show zfg (bitsOf (quad [a,b,c]++zjf l))=_
     rw [z8x,ih l (by simp at h;omega)]
theorem ykb (s:List UInt8):zco s=if zjf (zfg (bitsOf s))=s then some (zfg (bitsOf s)) else none:=by
 rcases h:zco s with _ | x
 ·rw [if_neg]
  intro he
  rw [← he,yj4 _ _ (Nat.le_refl _)] at h
  cases h
 ·have e:=yj7 _ _ _ (Nat.le_refl _) h
  have o:zfg (bitsOf s)=x:=by rw [← e];exact yka _ _ (Nat.le_refl _)
  rw [o,if_pos e]
end Nun
end
section
set_option synthInstance.maxSize 4000
namespace Nun
theorem ykc (k:Nat) (h:k<64):(ByteArray.mk zey.toArray)[k]'(by show k<zey.length;exact h)=dig k:=by
 have:∀ i:Fin 64,(ByteArray.mk zey.toArray)[i.1]'(by show i.1<zey.length;exact i.2)=dig i.1:=by decide +kernel
 exact this ⟨k,h⟩
theorem zyw (l:List UInt8) (c:UInt8):bitsOf (l++[c])=bitsOf l++(match zdy c with | some n=>zgy n | none=>[]):=by unfold bitsOf;rw [List.flatMap_append];cases h:zdy c<;>simp [h]
theorem z29 (l:List UInt8):(bitsOf l).length≤6 * l.length:=by
 induction l with
 | nil=>simp [bitsOf]
 | cons c l ih =>
   show ((match zdy c with | some n=>zgy n | none=>[])++bitsOf l).length≤_
   rw [List.length_append,List.length_cons]
   have:(match zdy c with | some n=>zgy n | none=>[]).length≤6:=by split<;>simp [zgy]
   omega
theorem yd2 (l:List Nat) (hl:∀ x∈l,x≤1) (i:Nat) (hi:i≤8):eight l i<256:=by
 have:∀ i,eight l i<2 ^ i:=by
  intro i
  induction i with
  | zero=>simp [eight]
  | succ i ih =>
    have:(l[i]?).getD 0≤1:=by
     rcases h:l[i]? with _ | x
     ·simp
     ·exact hl x (List.mem_of_getElem? h)
    rw [eight,Nat.pow_succ];omega
 exact Nat.lt_of_lt_of_le (this i) (Nat.pow_le_pow_right (n:=2) (by decide) hi)
theorem zyx (l:List UInt8):∀ x∈bitsOf l,x≤1:=by
 intro x h
 unfold bitsOf at h
 obtain ⟨c,_,hc⟩:=List.mem_flatMap.1 h
 cases hv:zdy c<;>simp [hv,zgy] at hc
 omega
theorem z3a (c:Nat) (j:Nat) (h:j<6):(zgy c).take (j+1)=(zgy c).take j++[(zgy c).getD j 0]:=by
 rw [List.take_succ_eq_append_getElem (by simpa [zgy] using h)];simp [List.getD,qe (l:=zgy c) (i:=j) (by simpa [zgy] using h)]
end Nun
namespace Go.Proofs.YtmpiobfdchlikaaGreatDoor
open Go.RowKit Nun
theorem z8y (c:UInt8) (w:World):Calls Tryz.prog 187 #[.int .u8 c.toNat] w (Same (.int .i64 ((zdy c).getD 64:Nat)) w):=by
 have hds:(ByteArray.mk zey.toArray).size=64:=rfl
 generalize hV:(zdy c).getD 64=V
 have HV:=Lib.hid hV;clear hV
 go_enter Tryz.func187,Tryz.ntmps187
 go_wp2_with (go_at_call 219;refine (zth _).mono ?_;rintro e w' ⟨rfl,rfl⟩)
 go_loopw [4] (fun i wr=>∃ (k:Nat),k≤64∧i=.int .i64 k∧Hid (∀ j,j<k→dig j≠c)∧wr=w)
  (fun i _=>64 - (intOf i).toNat)
 case atStart=>exact ⟨0,by omega,rfl,Lib.hid (fun j h=>by omega),rfl⟩
 case round =>
  obtain ⟨k,hk,rfl,hno,rfl⟩:=hrel
  by_cases hlt:k<64
  ·have hg:=ykc k hlt
   by_cases hc:dig k=c
   ·have hv:V=k:=by rw [← HV.out,← hc,zhw hlt];rfl
    have q:(((ByteArray.mk zey.toArray)[k]'(by rw [hds];exact hlt)).toNat == (c.toNat:Int))=true:=by rw [hg,hc];simp
    have hv':=Lib.hid hv;clear hv hc hg
    go_wp2
    go_ret
    rw [hv'.out]
    exact ⟨rfl,rfl⟩
   ·have hn:∀ j,j<k+1→dig j≠c:=fun j hj=>by
     by_cases e:j=k
     ·exact e ▸ hc
     ·exact hno.out j (by omega)
    have hn':=Lib.hid hn;clear hn
    have q:((((ByteArray.mk zey.toArray)[k]'(by rw [hds];exact hlt)).toNat:Int) == (c.toNat:Int))=false:=by
     rw [hg];simp [← UInt8.toNat_inj] at hc ⊢;omega
    clear hc hg
    go_wp2
    go_roundw
    case rel=>exact ⟨k+1,by omega,by go_num,hn',trivial⟩
    case measure=>simp [intOf];omega
  ·have hk64:k=64:=by omega
   have hv:V=64:=by
    rw [← HV.out]
    rcases h:zdy c with _ | n
    ·rfl
    ·exact absurd (zob h) (hno.out n (by have:=zhb _ _ h;omega))
   have hv':=Lib.hid hv;clear hv
   go_wp2
   go_ret
   rw [hv'.out]
   exact ⟨rfl,rfl⟩
theorem z0y (c:UInt8) (o:Option Nat) (h:zdy c=o) (w:World):Calls Tryz.prog 187 #[.int .u8 c.toNat] w (Same (.int .i64 (o.getD 64:Nat)) w):=h ▸ z8y c w
theorem z8z (s:ByteArray) (l:List UInt8) (h:zh9 (digs (zgo s.data.toList))=l) (w:World) (hs:s.size≤1000000):Calls Tryz.prog 155 #[.string s] w (Ret (.string ⟨l.toArray⟩) w):=h ▸ z26 s w hs
set_option maxRecDepth 100000 in
theorem zw8 (s:ByteArray) (w:World) (hs:s.size≤100000):Calls Tryz.prog 140 #[.string s] w (Ret (zm5 (zco s.data.toList)) w):=by
 have hlen:s.data.toList.length=s.size:=rfl
 have HL:=Lib.hid hlen;clear hlen
 generalize hV:zco s.data.toList=V
 have HV:=Lib.hid hV;clear hV
 go_enter Tryz.func140,Tryz.ntmps140
 go_wp2
 go_loopw [4,5,6,7] (fun v i _ _ wr=>∃ (k:Nat),k≤s.size∧i=.int .i64 k∧OwnN w.heap.size 3 v (bitsOf (s.data.toList.take k)) wr∧Below w.heap.size w wr)
  (fun _ i _ _ _=>s.size - (intOf i).toNat)
 case atStart=>exact ⟨0,Nat.zero_le _,rfl,OwnN.made w (Nat.le_refl _) _ _ rfl (by decide),(Below.refl _ _).alloc (Nat.le_refl _) _⟩
 case round =>
  obtain ⟨k,hk,rfl,hown,hbel⟩:=hrel
  have hbl:(bitsOf (s.data.toList.take k)).length≤6 * k:=by have:=z29 (s.data.toList.take k);rw [List.length_take] at this;omega
  by_cases hlt:k<s.size
  ·have hst:bitsOf (s.data.toList.take (k+1))=bitsOf (s.data.toList.take k)++(match zdy s[k] with | some n=>zgy n | none=>[]):=by
    rw [zm4 _ _ (by rw [HL.out];exact hlt),zyw];rfl
   generalize bitsOf (s.data.toList.take k)=acc at *
   rcases hv:zdy s[k] with _ | n
   ·rw [hv] at hst
    simp only [List.append_nil] at hst
    have HS:=Lib.hid hst;have Hv:=Lib.hid hv;clear hst hv
    go_wp2_with (go_at_call 187;refine (z0y _ _ Hv.out _).mono ?_;rintro e w' ⟨rfl,rfl⟩)
    go_loopw [4,7] (fun v q wr1=>q=.int .i64 32∧OwnN w.heap.size 3 v acc wr1∧Below w.heap.size w wr1) (fun _ q _=>(intOf q).toNat)
    case atStart=>exact ⟨rfl,hown,hbel⟩
    case round =>
     clear hown hbel
     obtain ⟨rfl,hown,hbel⟩:=hrel
     rw [← HS.out] at hown
     go_wp2
     go_roundw
     case rel=>exact ⟨k+1,by omega,by go_num,hown,hbel⟩
     case measure=>simp [intOf];omega
   ·rw [hv] at hst
    simp only [] at hst
    have hn64:=zhb _ _ hv
    have HS:=Lib.hid hst;have Hv:=Lib.hid hv;clear hst hv
    go_wp2_with (go_at_call 187;refine (z0y _ _ Hv.out _).mono ?_;rintro e w' ⟨rfl,rfl⟩)
    go_loopw [4,7] (fun v q wr1=>∃ (j:Nat),j≤6∧q=.int .i64 ((32 / 2 ^ j:Nat):Int)∧OwnN w.heap.size 3 v (acc++(zgy n).take j) wr1∧Below w.heap.size w wr1)
     (fun _ q _=>(intOf q).toNat)
    case atStart=>exact ⟨0,by omega,rfl,by simpa using hown,hbel⟩
    case round =>
     clear hown hbel
     obtain ⟨j,hj,rfl,hown,hbel⟩:=hrel
     by_cases hj6:j<6
     ·obtain ⟨b,hb⟩:∃ b,(zgy n).getD j 0=b:=⟨_,rfl⟩
      have hsn:=z3a n j hj6
      rw [hb] at hsn
      have hsn':=Lib.hid (show acc++(zgy n).take (j+1)=acc++(zgy n).take j++[b] by rw [hsn,List.append_assoc]);clear hsn
      have hl:((acc++(zgy n).take j).length+1) * 8≤140737488355328:=by
       rw [List.length_append,List.length_take];omega
      have HB:=Lib.hid hb;clear hb
      have hl':=Lib.hid hl;clear hl
      obtain rfl | rfl | rfl | rfl | rfl | rfl:j=0∨j=1∨j=2∨j=3∨j=4∨j=5:=by omega
      all_goals
       go_wp2_with (at_builtin;refine yp7 (by rfl) _ _ _ (by rfl) 3 Tryz.underlying147 z8s w.heap.size wr _ _ (by rfl) hown _ b (by rw [← HB.out];simp [zgy]) (by rfl) hl'.out hbel.size ?_;intro v1 w1 hown1 hgr hb1 hsz1)
       go_roundw
       case rel =>
        have hrow:=hown1
        rw [← hsn'.out] at hrow
        first | exact ⟨1,by omega,by go_num,hrow,hbel.trans hb1⟩ | exact ⟨2,by omega,by go_num,hrow,hbel.trans hb1⟩ | exact ⟨3,by omega,by go_num,hrow,hbel.trans hb1⟩ | exact ⟨4,by omega,by go_num,hrow,hbel.trans hb1⟩ | exact ⟨5,by omega,by go_num,hrow,hbel.trans hb1⟩ | exact ⟨6,by omega,by go_num,hrow,hbel.trans hb1⟩
       case measure=>simp [intOf]
     ·obtain rfl:j=6:=by omega
      have he:acc++(zgy n).take 6=bitsOf (s.data.toList.take (k+1)):=by rw [HS.out];rfl
      rw [he] at hown
      clear he
      go_wp2
      go_roundw
      case rel=>exact ⟨k+1,by omega,by go_num,hown,hbel⟩
      case measure=>simp [intOf];omega
  ·obtain rfl:k=s.size:=by omega
   rw [List.take_of_length_le (by rw [HL.out];exact Nat.le_refl _)] at hown hbl
   obtain ⟨w2,hw2⟩:∃ w2,w2=wr:=⟨_,rfl⟩
   subst hw2
   have hbit:=zyx s.data.toList
   have hlaw:=ykb s.data.toList
   rw [HV.out] at hlaw
   generalize bitsOf s.data.toList=L at *
   have HLAW:=Lib.hid hlaw;clear hlaw
   obtain ⟨a0,n0,cap0,rfl,hn0,hc0,hr0⟩:∃ a0 n0 cap0,u4=.slice a0 n0 cap0∧n0=L.length∧n0≤cap0∧(n0=0∨∃ g o,a0=some ⟨g,o,none⟩∧g<w2.heap.size∧∀ (j x:Nat),L[j]? =some x→w2.cell? ⟨g,o+j,none⟩=some (.int .i64 x)):=by
    rcases z8t hown with ⟨rfl,rfl⟩ | ⟨g,cap,rfl,hc,hr⟩
    ·exact ⟨_,_,_,rfl,rfl,Nat.le_refl _,.inl rfl⟩
    ·by_cases h0:L.length=0
     ·exact ⟨_,_,_,rfl,rfl,hc,.inl h0⟩
     ·obtain ⟨x,hx⟩:∃ x,L[0]? =some x:=⟨_,qe (by omega)⟩
      exact ⟨_,_,_,rfl,rfl,hc,.inr ⟨g,0,rfl,World.block_lt_of_cell? w2 _ (hr 0 x hx),hr⟩⟩
   have HR0:=Lib.hid hr0;have HBT:=Lib.hid hbit;have hn8:n0≤1000000:=by omega
   have HN0:=Lib.hid hn0
   clear hown hr0 hbit hn0
   go_wp2
   go_loopw [4,8,9,10] (fun v t _ _ wq=>∃ (M:List Nat) (acc:List UInt8) (a:Option Addr) (n cap:Nat),v=.slice a n cap∧OwnB w2.heap.size 5 t acc wq∧Below w2.heap.size w2 wq∧n≤cap∧acc.length+n≤1000000∧Hid (n=M.length)∧Hid (∀ x∈M,x≤1)∧Hid (zfg L=acc++zfg M)∧Hid (n=0∨∃ g o,a=some ⟨g,o,none⟩∧g<w2.heap.size∧∀ (j x:Nat),M[j]? =some x→w2.cell? ⟨g,o+j,none⟩=some (.int .i64 x)))
    (fun v _ _ _ _=>match v with | .slice _ n _=>n | _=>0)
   case atStart=>exact ⟨L,[],a0,n0,cap0,rfl,OwnB.made w2 (Nat.le_refl _) _ _ rfl (by decide),(Below.refl _ _).alloc (Nat.le_refl _) _,hc0,by simpa using hn8,HN0,HBT,Lib.hid rfl,HR0⟩
   case round =>
    obtain ⟨M,acc,a,n,kap,rfl,hown,hb,hcap,hsum,hM,hMb,hd,hr⟩:=hrel
    by_cases h8:8≤n
    ·rcases hr.out with h | ⟨gg,o,rfl,hgg,hcell⟩
     ·omega
     have hcell':∀ (j x:Nat),M[j]? =some x→wr.cell? ⟨gg,o+j,none⟩=some (.int .i64 x):=fun j x hj=>(hb.cell (p:=⟨gg,o+j,none⟩) hgg).trans (hcell j x hj)
     have HC:=Lib.hid hcell';have HC2:=Lib.hid hcell;clear hcell' hcell
     go_wp2
     go_loopw [9,10] (fun m i wz=>∃ (j:Nat),j≤8∧i=.int .i64 j∧m=.int .i64 (eight M j)∧wz=wr) (fun _ i _=>8 - (intOf i).toNat)
     case atStart=>exact ⟨0,by omega,rfl,rfl,rfl⟩
     case round =>
      obtain ⟨j,hj,rfl,rfl,rfl⟩:=hrel
      have he:=yd2 M hMb.out j hj
      by_cases hj8:j<8
      ·obtain ⟨x,hx⟩:∃ x,M[j]? =some x:=⟨_,qe (by rw [← hM.out];omega)⟩
       have hcell:=HC.out j x hx
       have hx1:=hMb.out x (List.mem_of_getElem? hx)
       have hsx:((eight M (j+1):Nat):Int)=2 * eight M j+x:=by rw [eight,hx];simp
       have HS:=Lib.hid hsx;clear hsx hx
       go_wp2
       go_roundw
       case rel=>exact ⟨j+1,by omega,by go_num,vi (by rw [HS.out]),trivial⟩
       case measure=>simp [intOf];omega
      ·obtain rfl:j=8:=by omega
       obtain ⟨c,hc⟩:∃ c:UInt8,UInt8.ofNat (eight M 8)=c:=⟨_,rfl⟩
       have hcn:eight M 8=c.toNat:=by rw [← hc];simp;omega
       have hc256:=c.toNat_lt
       have hmore:=zrx (l:=M) (by rw [← hM.out];exact h8)
       rw [hc] at hmore
       have HMo:=Lib.hid hmore;clear hmore hc
       rw [hcn]
       rw [hcn] at he
       clear hcn
       go_wp2_with (at_builtin;refine zjv (by rfl) _ _ _ (by rfl) 5 Tryz.underlying44 infoByte w2.heap.size wr _ _ (by rfl) hown c (by rfl) (by omega) hb.size ?_;intro g cap w1 hg hown1 hgr hb1 hsz1)
       go_roundw
       case rel =>
        refine ⟨M.drop 8,acc++[c],_,_,_,rfl,hown1,hb.trans hb1,by omega,by simp;omega,Lib.hid (by rw [List.length_drop,← hM.out]),Lib.hid (fun x hx=>hMb.out x (List.mem_of_mem_drop hx)),Lib.hid (by rw [hd.out,HMo.out];simp),Lib.hid ?_⟩
        by_cases hk8:kap=8
        ·exact .inl (by omega)
        ·refine .inr ⟨gg,o+8,by rw [if_neg hk8],hgg,fun j x hj=>?_⟩
         rw [List.getElem?_drop] at hj
         have:=HC2.out _ _ hj
         rw [← this];congr 2;omega
       case measure=>simp;omega
    ·have hA:zfg L=acc:=by rw [hd.out,ziy (by rw [← hM.out];exact h8)];simp
     have hlaw:=HLAW.out
     rw [hA] at hlaw
     have kc:=zg8 (P:=Tryz.prog) Tryz.underlying44 Tryz.underlying5 Tryz.underlying9 hown
     have hen:=z8z ⟨acc.toArray⟩ (zjf acc) (yj2 _ acc (Nat.le_refl _))
     have HE:=Lib.hid hen;clear hen
     have hsz:(ByteArray.mk acc.toArray).size≤1000000:=by show acc.length≤_;omega
     by_cases heq:zjf acc=s.data.toList
     ·rw [if_pos heq] at hlaw
      subst hlaw
      have hs':(ByteArray.mk (zjf acc).toArray)=s:=by rw [heq]
      rw [hs'] at HE
      go_wp2_with (go_at_call 155;refine (HE.out _ hsz).mono ?_;rintro e w3 ⟨rfl,hb3⟩;have kc3:=zg8 (P:=Tryz.prog) Tryz.underlying44 Tryz.underlying5 Tryz.underlying9 (OwnB.kept hown hb3))
      go_ret2
      exact ⟨rfl,(hbel.trans (hb.mono hbel.size)).trans (hb3.mono (Nat.le_trans hbel.size hb.size))⟩
     ·rw [if_neg heq] at hlaw
      subst hlaw
      have hne:(zjf acc == s.toList)=false:=by
       rw [ByteArray.toList_eq,beq_eq_false_iff_ne];exact heq
      go_wp2_with (go_at_call 155;refine (HE.out _ hsz).mono ?_;rintro e w3 ⟨rfl,hb3⟩;have kc3:=zg8 (P:=Tryz.prog) Tryz.underlying44 Tryz.underlying5 Tryz.underlying9 (OwnB.kept hown hb3))
      go_ret2
      exact ⟨rfl,(hbel.trans (hb.mono hbel.size)).trans (hb3.mono (Nat.le_trans hbel.size hb.size))⟩
end Go.Proofs.YtmpiobfdchlikaaGreatDoor
end
section
namespace Go.Proofs.YtmpiobfdchlikaaGreatDoor
open Go.RowKit Nun
variable {Γ:Glob}
def zw9:List Value→Option TupRes
 | [.string s]=>if s.size≤1000000 then some (flt [.string (S (zab s.data.toList))]) else none
 | _=>none
theorem z80:zjj Tryz.prog Γ 64 zw9:=zf8 (by kernel_rfl) fun vs R h=>by
 unfold zw9 at h
 split at h
 ·split at h
  ·rename_i hs
   cases h
   exact ⟨_,rfl,by simp [zcm],fun w _=>(zz5 _ w hs).mono (by rintro e w' ⟨rfl,hb⟩;exact ⟨rfl,hb⟩)⟩
  ·cases h
 ·cases h
def tDq5:List Value→Option TupRes
 | [.string s]=>if s.size≤1000000 then some (match decL s.data.toList with
   | some t=>flt [.string (S t),.int .i64 0]
   | none=>flt [.string (S []),.int .i64 7]) else none
 | _=>none
theorem ykd:zjj Tryz.prog Γ 119 tDq5:=zf8 (by kernel_rfl) fun vs R h=>by
 unfold tDq5 at h
 split at h
 ·rename_i s
  split at h
  ·rename_i hs
   have hc:=fun w=>z17 s w (by omega)
   cases hd:decL s.data.toList with
   | some t =>
     rw [hd] at h hc
     cases h
     exact ⟨_,rfl,by simp [zcm],fun w _=>(hc w).mono (by rintro e w' ⟨rfl,hb⟩;exact ⟨rfl,hb⟩)⟩
   | none =>
     rw [hd] at h hc
     cases h
     exact ⟨_,rfl,by simp [zcm],fun w _=>(hc w).mono (by rintro e w' ⟨rfl,hb⟩;exact ⟨rfl,hb⟩)⟩
  ·cases h
 ·cases h
def tUm4:List Value→Option TupRes
 | [.string s]=>if s.size≤100000 then some (match zco (bare s.data.toList) with
   | some t=>flt [.string (S t),.int .i64 0]
   | none=>flt [.string (S []),.int .i64 7]) else none
 | _=>none
theorem yke:zjj Tryz.prog Γ 120 tUm4:=zf8 (by kernel_rfl) fun vs R h=>by
 unfold tUm4 at h
 split at h
 ·rename_i s
  split at h
  ·rename_i hs
   have hc:=fun w=>z15 zw8 s w hs
   cases hd:zco (bare s.data.toList) with
   | some t =>
     rw [hd] at h hc
     cases h
     exact ⟨_,rfl,by simp [zcm],fun w _=>(hc w).mono (by rintro e w' ⟨rfl,hb⟩;exact ⟨rfl,hb⟩)⟩
   | none =>
     rw [hd] at h hc
     cases h
     exact ⟨_,rfl,by simp [zcm],fun w _=>(hc w).mono (by rintro e w' ⟨rfl,hb⟩;exact ⟨rfl,hb⟩)⟩
  ·cases h
 ·cases h
def zxa:List Value→Option TupRes
 | [.string s]=>if s.size≤10000 then some (match zba s.data.toList with
   | .form=>⟨[],some ([],0,2,41),[.int .i64 0,.int .i64 7]⟩
   | .long=>⟨[],some ([],0,2,41),[.int .i64 0,.int .i64 6]⟩
   | .ok l b=>⟨[],some (zai l,l.length,2,41),[.int .i64 b,.int .i64 0]⟩) else none
 | _=>none
theorem z81:zjj Tryz.prog Γ 61 zxa:=⟨by kernel_rfl,fun vs R h=>by
 unfold zxa at h
 split at h
 ·rename_i s
  split at h
  ·rename_i hs
   have hc:=fun w=>z8q s w hs _ rfl
   cases hV:zba s.data.toList with
   | form =>
     rw [hV] at h hc
     cases h
     exact ⟨⟨by simp [zcm],fun c n z ty e=>by cases e;simp⟩,fun w hw=>(hc w).mono (by rintro e w' ⟨rfl,hb⟩;exact ⟨.slice none 0 0,rfl,(fun c n z ty e=>by cases e;exact World.ownsRow_nil _ _ _ _),hb⟩)⟩
   | long =>
     rw [hV] at h hc
     cases h
     exact ⟨⟨by simp [zcm],fun c n z ty e=>by cases e;simp⟩,fun w hw=>(hc w).mono (by rintro e w' ⟨rfl,hb⟩;exact ⟨.slice none 0 0,rfl,(fun c n z ty e=>by cases e;exact World.ownsRow_nil _ _ _ _),hb⟩)⟩
   | ok l b =>
     rw [hV] at h hc
     cases h
     exact ⟨⟨by simp [zcm],fun c n z ty e=>by cases e;exact zjn l⟩,fun w hw=>(hc w).mono (by rintro e w' ⟨v,rfl,ho,hb⟩;exact ⟨v,rfl,(fun c n z ty e=>by cases e;exact ho),hb⟩)⟩
  ·cases h
 ·cases h⟩
def zxb:List Value→Option TupRes
 | [.string s]=>if s.size≤10000 then some (match zbr s.data.toList with
   | .form=>⟨[.string (S [])],some ([],0,2,114),[.int .i64 7]⟩
   | .twice=>⟨[.string (S [])],some ([],0,2,114),[.int .i64 9]⟩
   | .ok m l=>⟨[.string (S m)],some (zai l,l.length,2,114),[.int .i64 0]⟩) else none
 | _=>none
theorem z82:zjj Tryz.prog Γ 63 zxb:=⟨by kernel_rfl,fun vs R h=>by
 unfold zxb at h
 split at h
 ·rename_i s
  split at h
  ·rename_i hs
   cases hV:zbr s.data.toList with
   | form =>
     have hc:=fun w=>zn9 s w hs _ hV
     rw [hV] at h
     cases h
     exact ⟨⟨by simp [zcm],fun c n z ty e=>by cases e;simp⟩,fun w hw=>(hc w).mono (by rintro e w' ⟨rfl,hb⟩;exact ⟨.slice none 0 0,rfl,(fun c n z ty e=>by cases e;exact World.ownsRow_nil _ _ _ _),hb⟩)⟩
   | twice =>
     have hc:=fun w=>zn9 s w hs _ hV
     rw [hV] at h
     cases h
     exact ⟨⟨by simp [zcm],fun c n z ty e=>by cases e;simp⟩,fun w hw=>(hc w).mono (by rintro e w' ⟨rfl,hb⟩;exact ⟨.slice none 0 0,rfl,(fun c n z ty e=>by cases e;exact World.ownsRow_nil _ _ _ _),hb⟩)⟩
   | ok m l =>
     have hc:=fun w=>zn9 s w hs _ hV
     rw [hV] at h
     cases h
     exact ⟨⟨by simp [zcm],fun c n z ty e=>by cases e;exact zjn l⟩,fun w hw=>(hc w).mono (by rintro e w' ⟨v,rfl,ho,hb⟩;exact ⟨v,rfl,(fun c n z ty e=>by cases e;exact ho),hb⟩)⟩
  ·cases h
 ·cases h⟩
def libR:Nun.Callee:=both (zee 64 zw9) (both (zee 119 tDq5) (both (zee 120 tUm4) (both (zee 63 zxb) (zee 61 zxa))))
theorem ykf:zbv Tryz.prog Γ libR:=zeo (zcd (by decide) z80) (zeo (zcd (by decide) ykd) (zeo (zcd (by decide) yke) (zeo (zcd (by decide) z82) (zcd (by decide) z81))))
theorem ykg:zjo libR:=fun s hs=>by
 unfold libR
 have h:=zgh (k:=64) (spec:=zw9) (args:=[.flat (.string (S s))]) rfl (by unfold zw9;dsimp only;rw [zcv,if_pos hs,zhf])
 rw [zg3 h];rfl
theorem yrr:z79 libR:=fun s hs=>by
 unfold libR
 rw [zat (zav (by decide))]
 have h:=zgh (k:=119) (spec:=tDq5) (args:=[.flat (.string (S s))]) rfl (by unfold tDq5;dsimp only;rw [zcv,if_pos hs,zhf])
 rw [zg3 h]
 cases decL s with
 | some t=>rfl
 | none=>rfl
theorem yrs:z8a libR:=fun s hs=>by
 unfold libR
 rw [zat (zav (by decide)),zat (zav (by decide))]
 have h:=zgh (k:=120) (spec:=tUm4) (args:=[.flat (.string (S s))]) rfl (by unfold tUm4;dsimp only;rw [zcv,if_pos hs,zhf])
 rw [zg3 h]
 cases zco (bare s) with
 | some t=>rfl
 | none=>rfl
theorem yqa:zuq libR:=fun s hs=>by
 unfold libR
 rw [zat (zav (by decide)),zat (zav (by decide)),zat (zav (by decide))]
 have h:=zgh (k:=63) (spec:=zxb) (args:=[.flat (.string (S s))]) rfl (by unfold zxb;dsimp only;rw [zcv,if_pos hs,zhf])
 rw [zg3 h]
 cases zbr s with
 | form=>rfl
 | twice=>rfl
 | ok m F=>simp only [TupRes.pvs,zgj];rfl
theorem yqb:zur libR:=fun s hs=>by
 unfold libR
 rw [zat (zav (by decide)),zat (zav (by decide)),zat (zav (by decide)),zat (zav (by decide))]
 have h:=zgh (k:=61) (spec:=zxa) (args:=[.flat (.string (S s))]) rfl (by unfold zxa;dsimp only;rw [zcv,if_pos hs,zhf])
 rw [h]
 cases zba s with
 | form=>rfl
 | long=>rfl
 | ok F b=>simp only [TupRes.pvs,zgj];rfl
theorem zxc:LibR libR:=⟨ykg,yrr,yrs,yqa,yqb⟩
end Go.Proofs.YtmpiobfdchlikaaGreatDoor
end
section
namespace Nun
open Go
variable {H:Type} {enc:TypeId × Value→H}
theorem zev {a:Assume} {C:Checked} {os:Os} {f:FuncId} {fn:Func} {s:ChangeSpec} {conds:List PathCond} {apart fresh handsOn again:Bool} {X:World→Array Value→Prop}
 (hX:∀ (w w':World) (args:Array Value),w.heap=w'.heap→X w args→X w' args)
 (own:ownKnob C.prog.godebug=none) (started:os.Started) (noInit:C.prog.inits.idxOf? f=none) (hfn:C.prog.funcs[f]? =some fn)
 (witness:∃ (w:World) (tape:Tape) (i:Input),w.os=os∧(w.forCall tape i).Shaped C.prog∧i.vars=[]∧Input.okWide C.prog (w.forCall tape i) .any w.heap.size f i ∧
   ((s.pre enc C.prog fn conds apart (w.forCall tape i).memory i.args∧X (w.forCall tape i).memory i.args)∧sizedMet enc C.prog fn (OpenSpec.ofChange s) apart (w.forCall tape i).memory i.args)∧a.holds C.prog (lone (Frame.enter C.prog f i.args .normal) [] (w.forCall tape i)))
 (contract:∀ (W:World) (base:Nat) (args:Array Value) (ds gs:List (DataW H)) (before:List MemPlace),
   (∀ (j:Nat) t v,fn.params[j]? =some t→args[j]? =some v→Value.okWide C.prog W .any base t v) →
   DataW.Whole enc C.prog fn.params.toList s.vars apart W args.toList ds gs before →
   conds.all (PathCond.test C.prog ⟨fn.params.toList,ds,s.plain.varTypes C.prog,gs⟩)=true →
   (DataW.weightsEach C.prog (fn.params.toList++s.plain.varTypes C.prog) (ds++gs)).all (·≤reachBytes)=true→X W args →
   W.ShapedOpen C.prog →
   a.holds C.prog (lone (Frame.enter C.prog f args .normal) [] W) →
   Calls C.prog f args W fun e W'=>∃ v,e=.returned v∧s.post enc C.prog fn apart fresh handsOn again W args v W') :
 ReturnsInHanded a C os f .any (fun w args=>(s.pre enc C.prog fn conds apart w args∧X w args)∧sizedMet enc C.prog fn (OpenSpec.ofChange s) apart w args) (s.post enc C.prog fn apart fresh handsOn again):=by
 refine returnsInHanded_of_calls own started noInit witness ?_
 intro w tape i _ hsh _ hok hpre hholds
 obtain ⟨_,_,_,fn',hfn',_,_,_,_,hval⟩:=hok
 have e:fn'=fn:=Option.some.inj (hfn'.symm.trans hfn)
 subst e
 obtain ⟨⟨⟨ds,gs,before,hw,hc⟩,hx⟩,hz⟩:=hpre
 have hw':=DataW.Whole.of_heap (w':=w.forCall tape i) (by rfl) hw
 refine (contract (w.forCall tape i) w.heap.size i.args ds gs before hval hw' hc (hz.weights hw) (hX _ _ _ (by rfl) hx) hsh hholds).mono fun e W' ⟨v,he,hp⟩=>?_
 subst he
 exact ChangeSpec.post_blind hp
end Nun
namespace Go.Proofs.YtmpiobfdchlikaaGreatDoor
open Go.ChangeShapes Go.WideShapes Go.ChangeAt Go.RowKit Nun
theorem zxd {W:World} (h:W.ShapedOpen Tryz.prog):zfu W:=Go.Proofs.cell_of_shapedOpen_int (zero:=#[.int .i64 0]) (t:=3) h (of_decide_eq_true (by kernel_rfl)) (by kernel_rfl) rfl (by kernel_rfl) (by kernel_rfl) Tryz.underlying3
noncomputable def yqc (os:Os):World :=
 let w0:=World.holding Tryz.prog os ⟨#[],#[],[]⟩
 let put (h:Array Obj) (g:Nat) (cs:Array Value):Array Obj:=h.modify g fun
  | .cells _ t frozen=>.cells cs t frozen
  | o=>o
 let h1:=put w0.heap 2 (Lib.firstTab.map fun z=>Value.int .u8 z).toArray
 let h2:=put h1 3 ((List.range 16).flatMap fun i=>[Value.int .u8 (Lib.accLo i),Value.int .u8 (Lib.accHi i)]).toArray
 { w0 with heap:=h2 }
theorem yd3 (os:Os) (args:Array Value):laidMetH Tryz.prog [("unicode/utf8.acceptRanges",Rows.laid_unicode_utf8_acceptRanges),("unicode/utf8.first",Rows.laid_unicode_utf8_first)] ((yqc os).forCall (fun _ _=>0) ⟨#[],args,[]⟩).memory :=
 laidMetH_of_parts3 (fuel:=8) (laidMet_of_run' 8 (by kernel_rfl) (by kernel_rfl)) (by kernel_rfl) (by kernel_rfl)
end Go.Proofs.YtmpiobfdchlikaaGreatDoor
end

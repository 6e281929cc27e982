/- LetterNests answers true for all numbers and flags, at any start: texts of this proof, merged. -/
import Derived.Test.YtmpiobfdchlikaaGreatDoorNg
import Derived.RegionTactic
import Derived.ChangeAlike
import Derived.Maps.AppendAt
import Derived.OwnWalk
import Derived.RangeFuncBox
import Derived.RangeFuncNested
import Derived.Shelf.Strings.SlTrimAscii
import Derived.WalkMore
import Derived.Maps.Range
import Derived.Lib.SplitLaws
import Derived.KernelRfl
set_option linter.unusedVariables false
set_option linter.unusedSimpArgs false
set_option maxHeartbeats 4000000
section
namespace Go.Proofs.YtmpiobfdchlikaaGreatDoor
open Go Go.RowKit Nun
attribute [local go_sem] Oper.semAt_some
theorem zc2 {W:World} {D B t:Nat} {v:Value} (h:D≠B) (hb:Boxed W B t v) (o:Obj):Boxed (W.putObj D o) B t v:=(World.putObj_heap_other (Ne.symm h)).trans hb
theorem zjm {w:World} {tmps:Array Value} {n0:Nat} {v b e:Value} (c1:w.cell? ⟨n0,0,none⟩=some v) (c2:w.cell? ⟨n0+1,0,none⟩=some b) (c3:w.cell? ⟨n0+1+1,0,none⟩=some e)
 (h2:tmps.getD 2 undef=.pointer (some ⟨n0,0,none⟩):=by rfl) (h3:tmps.getD 3 undef=.pointer (some ⟨n0+1,0,none⟩):=by rfl) (h4:tmps.getD 4 undef=.pointer (some ⟨n0+1+1,0,none⟩):=by rfl) :
 (results Tryz.f69 tmps).run Tryz.prog w=.ok (.tuple #[v,b,e]) w:=by
 rw [Array.getD_eq_getD_getElem?] at h2 h3 h4
 simp [results,Tryz.results69,go_sem,c1,c2,c3,h2,h3,h4]
def zz7 (n0:Nat) (s:ByteArray) (x:zb8):Act:={ tmps:=#[.string s,undef,.pointer (some ⟨n0,0,none⟩),.pointer (some ⟨n0+1,0,none⟩),.pointer (some ⟨n0+1+1,0,none⟩),.string x.1.1,.int .i64 x.1.2,undef,undef,undef,undef,.string s,.func (.func 171) #[] #[.pointer (some ⟨n0+1+1+1,0,none⟩)],.string x.1.1,.int .i64 x.1.2,undef,undef,undef,undef,undef,undef,undef,undef,undef,undef,undef,undef,undef,undef,undef,undef,undef,undef,undef,undef,undef,undef,undef,undef,undef,undef,undef,undef,undef,undef,undef,undef,undef,undef,undef,undef,undef,undef,undef,undef,undef,undef,undef,undef,undef,undef,undef,undef,undef,undef,undef,undef,undef,undef,undef,undef,undef,undef,undef,undef,undef,undef,undef,undef,undef,undef,undef,undef,undef,undef,undef,undef,undef,undef,undef,undef,undef,undef,undef,undef],defers:=[] }
theorem z2f {n0 k:Nat} {w W w2 w3:World} {s p a b:ByteArray} {at_:Nat} {pre:List zb8} {v v3:Value} {L:Bool} {tmp:Obj} (hp:p.size≤10000∧at_≤20000)
 (hl:Boxed w2 n0 45 v) (hb:Boxed w2 (n0+1) 3 (.int .i64 0)) (he:Boxed w2 (n0+1+1) 26 (.int .i64 (if L then 6 else 0))) (hs:Boxed w2 (n0+1+1+1) 9 (.string s))
 (hB:Below n0 w w2) (hk:KeepsOthers W w2) (hkp:zez (n0+1+1+1) 0 W w2) (hg:zoz pre) (hne:¬ p.data.toList=[])
 (hst:za6 (stOf pre) p.data.toList=some ((stOf pre).1++[(p.data.toList.take k,p.data.toList.drop (k+1))],L)) (hal:a.data.toList=p.data.toList.take k) (hbl:b.data.toList=p.data.toList.drop (k+1))
 (hrow:w2.ownsRow n0 80 2 v (stOf pre).1.length (zai (stOf pre).1)) (hw2:n0≤w2.heap.size) (hmax:0<n0)
 (hown:w3.ownsRow n0 80 2 v3 ((stOf pre).1.length+1) (zai (stOf pre).1++[.string a,.string b])) (hgr:(w2.alloc tmp).grownBy w3 v.ownBlock) :
 KeepsOthers W (w3.setCell ⟨n0,0,none⟩ v3)∧zez (n0+1+1+1) 0 W (w3.setCell ⟨n0,0,none⟩ v3)∧Mid n0 w s (pre++[⟨(p,at_),hp⟩]) (w3.setCell ⟨n0,0,none⟩ v3):=by
 obtain ⟨hg2,hst2⟩:=zwp (x:=⟨(p,at_),hp⟩) hg hne hst
 obtain ⟨_,h2,h3,h4,h5⟩:=Boxed.appended hl (by decide) hrow hw2 (Nat.le_refl _) hown hgr
 have kp:∀ {B t:Nat} {u:Value},Boxed w2 B t u→t≠80→B≠n0→Boxed (w3.setCell ⟨n0,0,none⟩ v3) B t u:=fun h ht hn=>((h.alloc tmp).kept hgr (h.not_row ht hrow)).other hn _
 have hs3:=kp hs (by decide) (by omega)
 have ea:(⟨(p.data.toList.take k).toArray⟩:ByteArray)=a:=by apply ByteArray.ext;apply Array.ext';rw [hal]
 have eb:(⟨(p.data.toList.drop (k+1)).toArray⟩:ByteArray)=b:=by apply ByteArray.ext;apply Array.ext';rw [hbl]
 refine ⟨hk.trans h4,zla hkp ⟨Eq.trans hs3 (Eq.symm hs),h5.block _ hmax⟩,⟨⟨⟨_,h2,?_,trivial⟩,kp hb (by decide) (by omega),?_,hs3⟩,hg2⟩,hB.trans h5⟩
 ·rw [hst2,zcp]
  dsimp only
  rw [List.length_append,List.length_singleton,ea,eb]
  exact h3
 ·rw [hst2];exact kp he (by decide) (by omega)
theorem z7d {n0 g cap m:Nat} {w W W1:World} {s p:ByteArray} {at_:Nat} {pre:List zb8} {F0:List Fld} {q:Fld} {L:Bool} (hp:p.size≤10000∧at_≤20000)
 (hl:Boxed W1 n0 45 (.slice (some ⟨g,0,none⟩) (m+1) cap)) (hb:Boxed W1 (n0+1) 3 (.int .i64 0)) (he:Boxed W1 (n0+1+1) 26 (.int .i64 (if L then 6 else 0))) (hs:Boxed W1 (n0+1+1+1) 9 (.string s))
 (hB:Below n0 w W1) (hk:KeepsOthers W W1) (hkp:zez (n0+1+1+1) 0 W W1) (hg:zoz pre) (hne:¬ p.data.toList=[])
 (hst:za6 (stOf pre) p.data.toList=some (F0++[(q.1,q.2++p.data.toList)],L)) (hm:F0.length=m) (hg0:n0≤g)
 (hrow:W1.ownsRow n0 80 2 (.slice (some ⟨g,0,none⟩) (m+1) cap) (m+1) (zai F0++[.string ⟨q.1.toArray⟩,.string ⟨q.2.toArray⟩])) (hmax:0<n0) :
 KeepsOthers W (W1.setCell ⟨g,m * 2+1,none⟩ (.string (⟨q.2.toArray⟩++p)))∧zez (n0+1+1+1) 0 W (W1.setCell ⟨g,m * 2+1,none⟩ (.string (⟨q.2.toArray⟩++p)))∧Mid n0 w s (pre++[⟨(p,at_),hp⟩]) (W1.setCell ⟨g,m * 2+1,none⟩ (.string (⟨q.2.toArray⟩++p))):=by
 obtain ⟨hg2,hst2⟩:=zwp (x:=⟨(p,at_),hp⟩) hg hne hst
 have ne:∀ {B t:Nat} {u:Value},Boxed W1 B t u→t≠80→B≠g:=fun h ht e=>h.not_row ht hrow (by rw [e];rfl)
 have n1:=ne hl (by decide);have n2:=ne hb (by decide);have n3:=ne he (by decide);have n4:=ne hs (by decide)
 have kp:∀ {B t:Nat} {u:Value},Boxed W1 B t u→B≠g→Boxed (W1.setCell ⟨g,m * 2+1,none⟩ (.string (⟨q.2.toArray⟩++p))) B t u:=fun h hn=>(Below.heap_setCell _ _ _ _ hn).trans h
 refine ⟨hk.trans (KeepsOthers.setCell _ _ _),zla hkp (zoq n4 (by omega) _ _),⟨⟨⟨_,kp hl n1,?_,trivial⟩,kp hb n2,?_,kp hs n4⟩,hg2⟩,hB.setCell (p:=⟨g,m * 2+1,none⟩) hg0 _⟩
 ·have:=(hrow.stored (m * 2+1) (.string (⟨q.2.toArray⟩++p))).1
  rw [hst2,zcp]
  dsimp only
  rw [List.length_append,hm,List.length_singleton]
  rw [List.set_append_right _ _ (by rw [zb5];omega),zb5,hm,show m * 2+1 - m * 2=1 by omega] at this
  have e:(ByteArray.mk q.2.toArray++p)=⟨(q.2++p.data.toList).toArray⟩:=by
   apply ByteArray.ext;apply Array.ext';simp
  rw [e] at this
  rw [← e];rw [← e] at this
  exact this
 ·rw [hst2];exact kp he n3
theorem z7e:(Tryz.prog.info? 80).map (fun i=>(i.zero,i.size,i.bytes))=some (some (.agg #[.string ⟨#[]⟩,.string ⟨#[]⟩]),2,32):=by kernel_rfl
theorem zna {n0:Nat} {w W W1:World} {v:Value} {b e:Int} {pre:List zb8} {x:zb8} (hl:Boxed W1 n0 45 v) (hb:Boxed W1 (n0+1) 3 (.int .i64 b)) (he:Boxed W1 (n0+1+1) 26 (.int .i64 e))
 (hB:Below n0 w W1) (hk:KeepsOthers W W1) (hg:zoz pre) (hx:x.1.1.data.toList≠[]) (hs:za6 (stOf pre) x.1.1.data.toList=none) :
 KeepsOthers W (((W1.setCell ⟨n0,0,none⟩ (.slice none 0 0)).setCell ⟨n0+1,0,none⟩ (.int .i64 0)).setCell ⟨n0+1+1,0,none⟩ (.int .i64 7)) ∧
 Out n0 w .ret (pre++[x]) (((W1.setCell ⟨n0,0,none⟩ (.slice none 0 0)).setCell ⟨n0+1,0,none⟩ (.int .i64 0)).setCell ⟨n0+1+1,0,none⟩ (.int .i64 7)) :=
 ⟨((hk.trans (KeepsOthers.setCell _ _ _)).trans (KeepsOthers.setCell _ _ _)).trans (KeepsOthers.setCell _ _ _),
   .inl ⟨⟨⟨((hl.set _).other (by omega) _).other (by omega) _,((hb.other (by omega) _).set _).other (by omega) _,((he.other (by omega) _).other (by omega) _).set _⟩,rfl,pre,x,rfl,hg,hx,hs⟩,
    ((hB.setCell (p:=⟨n0,0,none⟩) (Nat.le_refl _) _).setCell (p:=⟨n0+1,0,none⟩) (by simp) _).setCell (p:=⟨n0+1+1,0,none⟩) (by simp;omega) _⟩⟩
set_option maxRecDepth 100000 in
theorem z7f (s:ByteArray) (w:World) (hm:zfu w) (hs:s.size≤10000):Calls Tryz.prog 69 #[.string s] w (splitV (zba s.data.toList) w):=by
 refine (callsIn_wide (n:=3)).1 ?_
 refine callsIn_of_wp_marks Tryz.func69 rfl trivial ?_ rfl
 simp only [Tryz.ntmps69,List.size_toArray,List.length_cons,List.length_nil,Nat.reduceAdd,Nat.reduceSub,Array.replicate_succ,Array.replicate_zero,List.push_toArray,List.append_toArray,List.nil_append,List.cons_append]
 refine wpIn_wide.2 ?_
 go_wp2_with (go_at_call 121;refine (z7b _ _).mono ?_;rintro e w' ⟨rfl,rfl⟩)
 obtain ⟨n0,hn0⟩:∃ n0,w.heap.size=n0:=⟨_,rfl⟩
 have hB0:Below n0 w ((((w.alloc (.cells #[.slice none 0 0] 45)).alloc (.cells #[.int .i64 0] 3)).alloc (.cells #[.int .i64 0] 26)).alloc (.cells #[.string s] 9)):=by
  rw [← hn0];exact ((((Below.refl _ w).alloc (Nat.le_refl _) _).alloc (by simp) _).alloc (by simp;omega) _).alloc (by simp;omega) _
 have hl0:Boxed ((((w.alloc (.cells #[.slice none 0 0] 45)).alloc (.cells #[.int .i64 0] 3)).alloc (.cells #[.int .i64 0] 26)).alloc (.cells #[.string s] 9)) n0 45 (.slice none 0 0):=by
  rw [← hn0];exact (((Boxed.new w _ _).alloc _).alloc _).alloc _
 have hb0:Boxed ((((w.alloc (.cells #[.slice none 0 0] 45)).alloc (.cells #[.int .i64 0] 3)).alloc (.cells #[.int .i64 0] 26)).alloc (.cells #[.string s] 9)) (n0+1) 3 (.int .i64 0):=by
  have:=Boxed.new (w.alloc (.cells #[.slice none 0 0] 45)) 3 (.int .i64 0)
  rw [World.size_alloc,hn0] at this
  exact (this.alloc _).alloc _
 have he0:Boxed ((((w.alloc (.cells #[.slice none 0 0] 45)).alloc (.cells #[.int .i64 0] 3)).alloc (.cells #[.int .i64 0] 26)).alloc (.cells #[.string s] 9)) (n0+1+1) 26 (.int .i64 0):=by
  have:=Boxed.new ((w.alloc (.cells #[.slice none 0 0] 45)).alloc (.cells #[.int .i64 0] 3)) 26 (.int .i64 0)
  rw [World.size_alloc,World.size_alloc,hn0] at this
  exact this.alloc _
 have hs0:Boxed ((((w.alloc (.cells #[.slice none 0 0] 45)).alloc (.cells #[.int .i64 0] 3)).alloc (.cells #[.int .i64 0] 26)).alloc (.cells #[.string s] 9)) (n0+1+1+1) 9 (.string s):=by
  have:=Boxed.new (((w.alloc (.cells #[.slice none 0 0] 45)).alloc (.cells #[.int .i64 0] 3)).alloc (.cells #[.int .i64 0] 26)) 9 (.string s)
  rw [World.size_alloc,World.size_alloc,World.size_alloc,hn0] at this
  exact this
 have hsz:((((w.alloc (.cells #[.slice none 0 0] 45)).alloc (.cells #[.int .i64 0] 3)).alloc (.cells #[.int .i64 0] 26)).alloc (.cells #[.string s] 9)).heap.size=n0+1+1+1+1:=by
  simp only [World.size_alloc,hn0]
 have hr0:((((w.alloc (.cells #[.slice none 0 0] 45)).alloc (.cells #[.int .i64 0] 3)).alloc (.cells #[.int .i64 0] 26)).alloc (.cells #[.string s] 9)).ownsRow n0 80 2 (.slice none 0 0) 0 []:=World.ownsRow_nil _ _ _ _
 have hm0:zfu ((((w.alloc (.cells #[.slice none 0 0] 45)).alloc (.cells #[.int .i64 0] 3)).alloc (.cells #[.int .i64 0] 26)).alloc (.cells #[.string s] 9)):=hm.below' (by rw [← hn0];exact hm.lt) hB0
 have hmlt:0<n0:=by rw [← hn0];exact hm.lt
 have hwn:n0≤w.heap.size:=by omega
 rw [hn0]
 generalize ((((w.alloc (.cells #[.slice none 0 0] 45)).alloc (.cells #[.int .i64 0] 3)).alloc (.cells #[.int .i64 0] 26)).alloc (.cells #[.string s] 9))=W0 at *
 refine (wpIn_wide (n:=3)).1 ?_
 refine wpIn_rangeFunc_ownF rfl (by omega) (gf:=171) (lb:=#[.pointer (some ⟨n0+1+1+1,0,none⟩)]) rfl trivial (enters_of Tryz.func171 (by kernel_rfl) rfl)
  (zyg _ (by omega) s hs (n0+1+1+1) _ hs0 hm0) zla (z2e (by omega) (by omega)) (Below.refl _ _) (fun _=>rfl)
  (Mid n0 w s) (Out n0 w) (yi6 n0 w s _ hwn (by omega)) (fun c=>yi7 n0 w c _ hwn (by omega))
  ⟨⟨⟨⟨_,hl0,hr0,trivial⟩,hb0,he0,hs0⟩,ycy⟩,hB0⟩ (zz7 n0 s) ?assign ?body ?done ?stop
 case assign =>
  intro l x W K hK
  gi_wp2
  exact hK
 case body =>
  rintro l pre x W ⟨⟨⟨⟨v,hbl,hrow,_⟩,hbb,hbe,hbs⟩,hgood⟩,hB⟩ hlen
  have hcl:=hbl.cell;have hcb:=hbb.cell;have hce:=hbe.cell
  have hfl:=hbl.frozen;have hfb:=hbb.frozen;have hfe:=hbe.frozen
  have HL:=Lib.hid hbl;have HBB:=Lib.hid hbb;have HE:=Lib.hid hbe;have HS:=Lib.hid hbs;clear hbl hbb hbe hbs
  obtain ⟨⟨p,at_⟩,hp⟩:=x
  dsimp only at hp
  unfold zz7
  dsimp only
  by_cases he:p.data.toList=[]
  ·obtain rfl:p=⟨#[]⟩:=by cases p with | mk d=>cases d with | mk l=>simp at he;subst he;rfl
   clear he
   gi_wp2
   refine ⟨KeepsOthers.setCell _ _ _,.inr ⟨⟨⟨⟨v,HL.out.other (by omega) _,?_,trivial⟩,?_,?_⟩,rfl,pre,_,rfl,hgood,rfl⟩,hB.setCell (p:=⟨n0+1,0,none⟩) (by simp) _⟩⟩
   ·rw [List.dropLast_concat];exact zre HBB.out (by decide) hrow _
   ·rw [List.getLast?_concat];exact HBB.out.set _
   ·rw [List.dropLast_concat];exact HE.out.other (by omega) _
  ·have HNE:=Lib.hid he;clear he
   have e1:p.toList=[] ↔ False:=by rw [Lib.toList_data];exact iff_of_false HNE.out id
   have e2:p.toList.isEmpty=false:=by
    rw [Lib.toList_data]
    cases h:p.data.toList with
    | nil=>exact absurd h HNE.out
    | cons _ _=>rfl
   have hpos:0<p.size:=by
    rcases Nat.eq_zero_or_pos p.size with h | h
    ·exact absurd (qz h) HNE.out
    ·exact h
   obtain ⟨W1,hWa,hWb,hl1,hb1,he1,hs1,hrow1,hB1,hk1,hkp1⟩:∃ W1:World,(998<p.size→W.setCell ⟨n0+1+1,0,none⟩ (.int .i64 6)=W1)∧(¬ 998<p.size→W=W1)∧Boxed W1 n0 45 v∧Boxed W1 (n0+1) 3 (.int .i64 0) ∧
    Boxed W1 (n0+1+1) 26 (.int .i64 (if (stOf pre).2 || decide (998<p.data.toList.length) then 6 else 0))∧Boxed W1 (n0+1+1+1) 9 (.string s)∧W1.ownsRow n0 80 2 v (stOf pre).1.length (zai (stOf pre).1)∧Below n0 w W1∧KeepsOthers W W1∧zez (n0+1+1+1) 0 W W1:=by
    rw [show p.data.toList.length=p.size from rfl]
    by_cases hlong:998<p.size
    ·refine ⟨_,fun _=>rfl,fun h=>absurd hlong h,HL.out.other (by omega) _,HBB.out.other (by omega) _,?_,HS.out.other (by omega) _,zre HE.out (by decide) hrow _,hB.setCell (p:=⟨n0+1+1,0,none⟩) (by simp;omega) _,KeepsOthers.setCell _ _ _,zoq (by omega) (by omega) _ _⟩
     rw [show decide (998<p.size)=true by simpa using hlong,Bool.or_true];exact HE.out.set _
    ·refine ⟨W,fun h=>absurd h hlong,fun _=>rfl,HL.out,HBB.out,?_,HS.out,hrow,hB,KeepsOthers.refl _,zlp (by have:=HS.out.lt;omega) (by have:=HS.out.lt;omega) (Below.refl _ _)⟩
     rw [show decide (998<p.size)=false by simpa using hlong,Bool.or_false];exact HE.out
   clear HL HBB HE HS
   have hcl1:=hl1.cell;have hcb1:=hb1.cell;have hce1:=he1.cell
   have hfl1:=hl1.frozen;have hfb1:=hb1.frozen;have hfe1:=he1.frozen
   have HL:=Lib.hid hl1;have HBB:=Lib.hid hb1;have HE:=Lib.hid he1;have HS:=Lib.hid hs1;clear hl1 hb1 he1 hs1
   have hpm:p.size≤maxLen:=by unfold maxLen;omega
   have hhead:=zs4 p hpos
   rcases hbl:zal p[0] with _ | _
   ·rw [hbl] at hhead
    obtain ⟨q1,q2⟩:=yc0 _ hbl
    clear hbl
    have hm1:zfu W1:=hm.below' (by omega) hB1
    have hBs:w.heap.size≤W1.heap.size:=hB1.size
    rcases hco:zdp 58 p.data.toList with _ | k
    ·have HSt:=Lib.hid (zop (st:=stOf pre) hhead hco)
     have HCO:=Lib.hid hco;clear hco hhead
     by_cases hlong:998<p.size
     all_goals first | (replace hWa:=hWa hlong;clear hWb) | (obtain rfl:=hWb hlong;clear hWa hWb)
     all_goals
      gi_wp2_with (refine ⟨trivial,?_⟩;gi_at_call 79;refine (CallsIn.inRound l (callsIn_wide.2 (zyf 58 p _ hm1 (by omega) HCO.out))).mono ?_;rintro e w2 ⟨rfl,hbw⟩;have hl2:Boxed w2 n0 45 v:=(hbw.block _ HL.out.lt).trans HL.out;have hb2:Boxed w2 (n0+1) 3 (.int .i64 0):=(hbw.block _ HBB.out.lt).trans HBB.out;have he2:Boxed w2 (n0+1+1) 26 (.int .i64 (if ((stOf pre).2 || decide (998<p.data.toList.length))=true then 6 else 0)):=(hbw.block _ HE.out.lt).trans HE.out;have hcl2:=Boxed.cell hl2;have hfl2:=Boxed.frozen hl2;have hcb2:=Boxed.cell hb2;have hfb2:=Boxed.frozen hb2;have hce2:=Boxed.cell he2;have hfe2:=Boxed.frozen he2;have HL2:=Lib.hid hl2;have HB2:=Lib.hid hb2;have HE2:=Lib.hid he2;clear hl2 hb2 he2)
      refine ⟨trivial,?_⟩
      gi_wp2
      refine ⟨trivial,?_⟩
      gi_wp2
      exact zna (x:=⟨(p,at_),hp⟩) HL2.out HB2.out HE2.out (hB1.trans (hbw.mono (Nat.le_trans hwn hBs))) (hk1.trans (zjk hbw)) hgood HNE.out HSt.out
    ·have hkl:=zm3 hco
     rw [show p.data.toList.length=p.size from rfl] at hkl
     rcases hna:zgv (p.data.toList.take k) with _ | _
     ·have HSt:=Lib.hid (zrd (st:=stOf pre) hhead hco hna)
      have HCO:=Lib.hid hco;have HNA:=Lib.hid hna;clear hco hhead hna
      by_cases hlong:998<p.size
      all_goals first | (replace hWa:=hWa hlong;clear hWb) | (obtain rfl:=hWb hlong;clear hWa hWb)
      all_goals
       gi_wp2_with (first | (refine ⟨trivial,?_⟩;gi_at_call 79;refine (CallsIn.inRound l (callsIn_wide.2 (zkn 58 p _ hm1 (by omega) k HCO.out))).mono ?_;rintro e w2 ⟨a,b,rfl,hak,hbk,hal,hbl,hbw⟩;have haz:a.size≤maxLen:=(by unfold maxLen;omega);have HAK:=Lib.hid hak;clear hak;have hl2:Boxed w2 n0 45 v:=(hbw.block _ HL.out.lt).trans HL.out;have hb2:Boxed w2 (n0+1) 3 (.int .i64 0):=(hbw.block _ HBB.out.lt).trans HBB.out;have he2:Boxed w2 (n0+1+1) 26 (.int .i64 (if ((stOf pre).2 || decide (998<p.data.toList.length))=true then 6 else 0)):=(hbw.block _ HE.out.lt).trans HE.out;have hcl2:=Boxed.cell hl2;have hfl2:=Boxed.frozen hl2;have hcb2:=Boxed.cell hb2;have hfb2:=Boxed.frozen hb2;have hce2:=Boxed.cell he2;have hfe2:=Boxed.frozen he2;have HL2:=Lib.hid hl2;have HB2:=Lib.hid hb2;have HE2:=Lib.hid he2;clear hl2 hb2 he2;have hrow2:=own_below hrow1 hbw;have hs2:Boxed w2 (n0+1+1+1) 9 (.string s):=(hbw.block _ HS.out.lt).trans HS.out;have HS2:=Lib.hid hs2;clear hs2;have hw2n:n0≤w2.heap.size:=(by have:=hbw.size;omega)) | (refine ⟨trivial,?_⟩;gi_at_call 123;refine (CallsIn.inRound l (callsIn_wide.2 (zul a false (by rw [hal.out];exact HNA.out) _ haz))).mono ?_;rintro e w3 ⟨rfl,rfl⟩))
       refine ⟨trivial,?_⟩
       gi_wp2
       exact zna (x:=⟨(p,at_),hp⟩) HL2.out HB2.out HE2.out (hB1.trans (hbw.mono (Nat.le_trans hwn hBs))) (hk1.trans (zjk hbw)) hgood HNE.out HSt.out
     ·rcases hsh:p.data.toList.all zd6 with _ | _
      ·have HSt:=Lib.hid (zlb (st:=stOf pre) hsh)
       have HSH:=Lib.hid hsh
       have HCO:=Lib.hid hco;have HNA:=Lib.hid hna;clear hco hhead hna hsh
       by_cases hlong:998<p.size
       all_goals first | (replace hWa:=hWa hlong;clear hWb) | (obtain rfl:=hWb hlong;clear hWa hWb)
       all_goals
        gi_wp2_with (first | (refine ⟨trivial,?_⟩;gi_at_call 79;refine (CallsIn.inRound l (callsIn_wide.2 (zkn 58 p _ hm1 (by omega) k HCO.out))).mono ?_;rintro e w2 ⟨a,b,rfl,hak,hbk,hal,hbl,hbw⟩;have haz:a.size≤maxLen:=(by unfold maxLen;omega);have HAK:=Lib.hid hak;clear hak;have hl2:Boxed w2 n0 45 v:=(hbw.block _ HL.out.lt).trans HL.out;have hb2:Boxed w2 (n0+1) 3 (.int .i64 0):=(hbw.block _ HBB.out.lt).trans HBB.out;have he2:Boxed w2 (n0+1+1) 26 (.int .i64 (if ((stOf pre).2 || decide (998<p.data.toList.length))=true then 6 else 0)):=(hbw.block _ HE.out.lt).trans HE.out;have hcl2:=Boxed.cell hl2;have hfl2:=Boxed.frozen hl2;have hcb2:=Boxed.cell hb2;have hfb2:=Boxed.frozen hb2;have hce2:=Boxed.cell he2;have hfe2:=Boxed.frozen he2;have HL2:=Lib.hid hl2;have HB2:=Lib.hid hb2;have HE2:=Lib.hid he2;clear hl2 hb2 he2;have hrow2:=own_below hrow1 hbw;have hs2:Boxed w2 (n0+1+1+1) 9 (.string s):=(hbw.block _ HS.out.lt).trans HS.out;have HS2:=Lib.hid hs2;clear hs2;have hw2n:n0≤w2.heap.size:=(by have:=hbw.size;omega)) | (refine ⟨trivial,?_⟩;gi_at_call 123;refine (CallsIn.inRound l (callsIn_wide.2 (zul a true (by rw [hal.out];exact HNA.out) _ haz))).mono ?_;rintro e w3 ⟨rfl,rfl⟩) | (refine ⟨trivial,?_⟩;gi_at_call 122;refine (CallsIn.inRound l (callsIn_wide.2 (zpk p false HSH.out _ hpm))).mono ?_;rintro e w3 ⟨rfl,rfl⟩))
        exact zna (x:=⟨(p,at_),hp⟩) HL2.out HB2.out HE2.out (hB1.trans (hbw.mono (Nat.le_trans hwn hBs))) (hk1.trans (zjk hbw)) hgood HNE.out HSt.out
      ·obtain ⟨i0,hi0,hz0,hz1,hz2⟩:=info_parts z7e
       have hgl:=zuk hgood
       have hstep:=zs3 (st:=stOf pre) hsh hhead hco hna
       have HSt:=Lib.hid hstep
       have HSH:=Lib.hid hsh
       have HCO:=Lib.hid hco;have HNA:=Lib.hid hna;clear hco hhead hna hsh hstep
       by_cases hlong:998<p.size
       all_goals first | (replace hWa:=hWa hlong;clear hWb) | (obtain rfl:=hWb hlong;clear hWa hWb)
       all_goals
        gi_wp2_with (first | (refine ⟨trivial,?_⟩;gi_at_call 79;refine (CallsIn.inRound l (callsIn_wide.2 (zkn 58 p _ hm1 (by omega) k HCO.out))).mono ?_;rintro e w2 ⟨a,b,rfl,hak,hbk,hal,hbl,hbw⟩;have haz:a.size≤maxLen:=(by unfold maxLen;omega);have HAK:=Lib.hid hak;clear hak;have hl2:Boxed w2 n0 45 v:=(hbw.block _ HL.out.lt).trans HL.out;have hb2:Boxed w2 (n0+1) 3 (.int .i64 0):=(hbw.block _ HBB.out.lt).trans HBB.out;have he2:Boxed w2 (n0+1+1) 26 (.int .i64 (if ((stOf pre).2 || decide (998<p.data.toList.length))=true then 6 else 0)):=(hbw.block _ HE.out.lt).trans HE.out;have hcl2:=Boxed.cell hl2;have hfl2:=Boxed.frozen hl2;have hcb2:=Boxed.cell hb2;have hfb2:=Boxed.frozen hb2;have hce2:=Boxed.cell he2;have hfe2:=Boxed.frozen he2;have HL2:=Lib.hid hl2;have HB2:=Lib.hid hb2;have HE2:=Lib.hid he2;clear hl2 hb2 he2;have hrow2:=own_below hrow1 hbw;have hs2:Boxed w2 (n0+1+1+1) 9 (.string s):=(hbw.block _ HS.out.lt).trans HS.out;have HS2:=Lib.hid hs2;clear hs2;have hw2n:n0≤w2.heap.size:=(by have:=hbw.size;omega)) | (refine ⟨trivial,?_⟩;gi_at_call 123;refine (CallsIn.inRound l (callsIn_wide.2 (zul a true (by rw [hal.out];exact HNA.out) _ haz))).mono ?_;rintro e w3 ⟨rfl,rfl⟩) | (refine ⟨trivial,?_⟩;gi_at_call 122;refine (CallsIn.inRound l (callsIn_wide.2 (zpk p true HSH.out _ hpm))).mono ?_;rintro e w3 ⟨rfl,rfl⟩) | (gi_at_builtin;refine wpListIn_append_own _ rfl _ _ 45 rfl n0 80 i0 _ 2 32 Tryz.underlying45 hi0 hz0 hz1 hz2 rfl (by decide) _ _ _ rfl (hrow2.alloc _) ⟨w2.heap.size,0,none⟩ 1 1 [.string a,.string b] rfl rfl (cell_two_new _ _ _ _) (by simp [Value.oneCell']) (by unfold maxLen;omega) (by omega) (by simp;omega) ?_;intro v3 w3 hown3 hgr3 _;obtain ⟨g3,cap3,rfl⟩:=ownsRow_succ hown3;have hap:=Boxed.appended HL2.out (by decide) hrow2 hw2n (Nat.le_refl _) hown3 hgr3;have hc3:=hap.1.cell;have hf3:=hap.1.frozen;clear hap))
        exact z2f hp HL2.out HB2.out HE2.out HS2.out (hB1.trans (hbw.mono (Nat.le_trans hwn hBs))) (hk1.trans (zjk hbw)) (zla hkp1 (zlp HS.out.lt hm1.lt hbw)) hgood HNE.out HSt.out hal.out hbl.out hrow2 hw2n hmlt hown3 hgr3
   ·rw [hbl] at hhead
    have hb2:=z7a _ hbl
    clear hbl
    rcases hFe:(stOf pre).1.reverse with _ | ⟨q,R⟩
    ·have hF:(stOf pre).1=[]:=by simpa using hFe
     have HSt:=Lib.hid (zlq (l:=p.data.toList) hhead hF)
     have hz:(stOf pre).1.length=0:=by rw [hF];rfl
     clear hFe hF hhead
     rw [hz] at hrow1
     clear hz
     have hv:∃ a cap,v=.slice a 0 cap:=by
      rcases zhd hrow1 with ⟨h,_⟩ | ⟨g,cap,h,_⟩
      ·exact ⟨_,_,h⟩
      ·exact ⟨_,_,h⟩
     obtain ⟨a,cap,rfl⟩:=hv
     clear hrow1
     by_cases hlong:998<p.size
     all_goals first | (replace hWa:=hWa hlong;clear hWb) | (obtain rfl:=hWb hlong;clear hWa hWb)
     all_goals rcases hb2 with q1 | ⟨q1,q2⟩
     all_goals
      gi_wp2
      refine ⟨trivial,?_⟩
      gi_wp2
      exact zna (x:=⟨(p,at_),hp⟩) HL.out HBB.out HE.out hB1 hk1 hgood HNE.out HSt.out
    ·have hF:(stOf pre).1=R.reverse++[q]:=by rw [← List.reverse_reverse (stOf pre).1,hFe,List.reverse_cons]
     obtain ⟨F0,hF0⟩:∃ F0,R.reverse=F0:=⟨_,rfl⟩
     rw [hF0] at hF
     have hlen1:(stOf pre).1.length=F0.length+1:=by rw [hF];simp
     rw [hlen1,hF,zcp] at hrow1
     obtain ⟨m,hm0⟩:∃ m,F0.length=m:=⟨_,rfl⟩
     rw [hm0] at hrow1
     obtain ⟨g,cap,rfl,hg0,hglt,hcap⟩:∃ g cap,v=.slice (some ⟨g,0,none⟩) (m+1) cap∧n0≤g∧g<W1.heap.size∧m+1≤cap:=by
      rcases zhd hrow1 with ⟨_,h⟩ | ⟨g,cap,h⟩
      ·omega
      ·exact ⟨g,cap,h⟩
     have hcell:=hrow1.cellAt (m * 2+1) (by omega)
     rw [List.getElem?_append_right (by rw [zb5];omega),zb5,hm0,show m * 2+1 - m * 2=1 by omega] at hcell
     have hfro:=hrow1.frozenAt (m * 2+1)
     have hcell':W1.cell? ⟨g,m * 2+1,none⟩=some (.string ⟨q.2.toArray⟩):=hcell
     have HROW:=Lib.hid hrow1
     have HF:=Lib.hid hF
     have hml:m≤1000001:=by have:=zuk hgood;omega
     have HM:=Lib.hid hm0
     have hqs:(ByteArray.mk q.2.toArray).size≤200000000:=by
      have:=zwq hgood q (by rw [hF];simp)
      show q.2.length≤_;omega
     clear hcell hF hFe hF0 hlen1 hrow1 hm0
     rcases hsh:p.data.toList.all zd6 with _ | _
     ·have HSt:=Lib.hid (zlb (st:=stOf pre) hsh)
      have HSH:=Lib.hid hsh;clear hsh hhead
      by_cases hlong:998<p.size
      all_goals first | (replace hWa:=hWa hlong;clear hWb) | (obtain rfl:=hWb hlong;clear hWa hWb)
      all_goals rcases hb2 with q1 | ⟨q1,q2⟩
      all_goals
       gi_wp2_with (refine ⟨trivial,?_⟩;gi_at_call 122;refine (CallsIn.inRound l (callsIn_wide.2 (zpk p false HSH.out _ hpm))).mono ?_;rintro e w2 ⟨rfl,rfl⟩)
       exact zna (x:=⟨(p,at_),hp⟩) HL.out HBB.out HE.out hB1 hk1 hgood HNE.out HSt.out
     ·have hstep:=zs2 (st:=stOf pre) (l:=p.data.toList) hsh hhead HF.out
      have HSt:=Lib.hid hstep
      have HSH:=Lib.hid hsh;clear hsh hhead hstep
      by_cases hlong:998<p.size
      all_goals first | (replace hWa:=hWa hlong;clear hWb) | (obtain rfl:=hWb hlong;clear hWa hWb)
      all_goals rcases hb2 with q1 | ⟨q1,q2⟩
      all_goals
       gi_wp2_with (refine ⟨trivial,?_⟩;gi_at_call 122;refine (CallsIn.inRound l (callsIn_wide.2 (zpk p true HSH.out _ hpm))).mono ?_;rintro e w2 ⟨rfl,rfl⟩)
       exact z7d hp HL.out HBB.out HE.out HS.out hB1 hk1 hkp1 hgood HNE.out HSt.out HM.out hg0 HROW.out hmlt
 case done =>
  rintro D xs W hD hS ⟨⟨⟨⟨v,hbl,hrow,_⟩,hbb,hbe,hbs⟩,hgood⟩,hB⟩ hK
  have hform:zba s.data.toList=.form:=by
   unfold zba
   rw [← hS,← List.append_nil (xs.map zb8.pair),zuj hgood];rfl
  have hcl:=hbl.cell;have hcb:=hbb.cell;have hce:=hbe.cell
  have hfl:=hbl.frozen;have hfb:=hbb.frozen;have hfe:=hbe.frozen
  have HK:=Lib.hid hK;have HFo:=Lib.hid hform
  have HL:=Lib.hid hbl;have HBB:=Lib.hid hbb;have HE:=Lib.hid hbe;clear hbl hbb hbe hbs hK hform hS
  go_wp2
  rw [HFo.out]
  have hK2:=(((KeepsOthers.setCell W ⟨n0,0,none⟩ (.slice none 0 0)).trans (KeepsOthers.setCell _ ⟨n0+1,0,none⟩ (.int .i64 0))).trans (KeepsOthers.setCell _ ⟨n0+1+1,0,none⟩ (.int .i64 7))).same D _ HK.out rfl
  have h1:=(((HL.out.set (.slice none 0 0)).other (show n0≠n0+1 by omega) (.int .i64 0)).other (show n0≠n0+1+1 by omega) (.int .i64 7))
  have h2:=(((HBB.out.other (show n0+1≠n0 by omega) (.slice none 0 0)).set (.int .i64 0)).other (show n0+1≠n0+1+1 by omega) (.int .i64 7))
  have h3:=(((HE.out.other (show n0+1+1≠n0 by omega) (.slice none 0 0)).other (show n0+1+1≠n0+1 by omega) (.int .i64 0)).set (.int .i64 7))
  have h4:=((hB.setCell (p:=⟨n0,0,none⟩) (Nat.le_refl _) (.slice none 0 0)).setCell (p:=⟨n0+1,0,none⟩) (by simp) (.int .i64 0)).setCell (p:=⟨n0+1+1,0,none⟩) (by simp;omega) (.int .i64 7)
  refine ⟨by simp,.inl ⟨_,_,rfl,run_takeDeferred hK2,?_⟩⟩
  have hd0:D≠n0:=by omega
  have hd1:D≠n0+1:=by omega
  have hd2:D≠n0+1+1:=by omega
  have c1:=(zc2 hd0 h1 (.deferred none)).cell;have c2:=(zc2 hd1 h2 (.deferred none)).cell;have c3:=(zc2 hd2 h3 (.deferred none)).cell
  exact ⟨_,zjm c1 c2 c3,rfl,by rw [hn0];exact h4.trans (belowK_b (w:=w) hwn _ D _ _ (by omega) hK2 rfl rfl)⟩
 case stop =>
  rintro D c pre W hD hSp hout hK
  rcases hout with ⟨⟨⟨hbl,hbb,hbe⟩,rfl,pre0,x,rfl,hg,hx,hst⟩,hB⟩ | ⟨⟨⟨⟨v,hbl,hrow,_⟩,hbb,hbe⟩,rfl,pre0,x,rfl,hg,hx⟩,hB⟩
  ·have hform:zba s.data.toList=.form:=by
    obtain ⟨r,hr⟩:=hSp
    unfold zba
    rw [← hr,List.map_append,List.append_assoc,zuj hg,List.map_singleton]
    show (match zb6 ((x.1.1.data.toList,x.1.2)::r) _ with | none=>Split.form | some (_,true,_)=>.long | some (f,false,b)=>.ok (f.map fun p:Fld=>(p.1,trimB p.2)) b)=_
    rw [zb6,if_neg hx,hst]
   have hcl:=hbl.cell;have hcb:=hbb.cell;have hce:=hbe.cell
   have hfl:=hbl.frozen;have hfb:=hbb.frozen;have hfe:=hbe.frozen
   have HK:=Lib.hid hK;have HFo:=Lib.hid hform
   have HL:=Lib.hid hbl;have HBB:=Lib.hid hbb;have HE:=Lib.hid hbe;clear hbl hbb hbe hK hform
   gi_wp2
   rw [HFo.out]
   refine ⟨by simp,.inl ⟨_,_,rfl,run_takeDeferred HK.out,?_⟩⟩
   have hd0:D≠n0:=by omega
   have hd1:D≠n0+1:=by omega
   have hd2:D≠n0+1+1:=by omega
   have c1:=(zc2 hd0 HL.out (.deferred none)).cell;have c2:=(zc2 hd1 HBB.out (.deferred none)).cell;have c3:=(zc2 hd2 HE.out (.deferred none)).cell
   exact ⟨_,zjm c1 c2 c3,rfl,by rw [hn0];exact hB.trans (belowK_b (w:=w) hwn _ D _ _ (by omega) HK.out rfl rfl)⟩
  ·rw [List.dropLast_concat] at hrow hbe
   rw [List.getLast?_concat] at hbb
   have hrun:zb6 (itL s.data.toList 0) ([],false)=some ((stOf pre0).1,(stOf pre0).2,x.1.2):=by
    obtain ⟨r,hr⟩:=hSp
    rw [← hr,List.map_append,List.append_assoc,zuj hg,List.map_singleton]
    show zb6 ((x.1.1.data.toList,x.1.2)::r) _=_
    rw [zb6,if_pos hx]
   have hat:2≤x.1.2:=by
    obtain ⟨r,hr⟩:=hSp
    exact yiz _ _ _ (Nat.le_refl _) (x.1.1.data.toList,x.1.2) (by rw [← hr,List.map_append,List.map_singleton];simp [zb8.pair])
   have hgl:=zuk hg
   have hgv:=zwq hg
   have hpl:pre0.length≤10000:=by
    obtain ⟨r,hr⟩:=hSp
    have h1:=zqx _ s.data.toList 0 (Nat.le_refl _)
    rw [← hr,List.length_append,List.length_map,List.length_append,show s.data.toList.length=s.size from rfl] at h1;omega
   generalize hst:stOf pre0=st at *
   obtain ⟨F,L⟩:=st
   obtain ⟨⟨p,at_⟩,hp⟩:=x
   dsimp only at hrow hbe hbb hrun hat hgl hgv hp
   replace hbb:Boxed W (n0+1) 3 (.int .i64 at_):=hbb
   have hcl:=hbl.cell;have hcb:=hbb.cell;have hce:=hbe.cell
   have hfl:=hbl.frozen;have hfb:=hbb.frozen;have hfe:=hbe.frozen
   have HK:=Lib.hid hK
   have HL:=Lib.hid hbl;have HBB:=Lib.hid hbb;have HR:=Lib.hid hrun;clear hbl hbb hK hrun hst hx hg hSp hce hfe
   cases L
   ·replace hbe:Boxed W (n0+1+1) 26 (.int .i64 0):=hbe
    have hce:=hbe.cell;have hfe:=hbe.frozen
    have HE:=Lib.hid hbe;clear hbe
    have hform:zba s.data.toList=.ok (F.map fun p=>(p.1,trimB p.2)) at_:=by unfold zba;rw [HR.out]
    have HFo:=Lib.hid hform;clear hform
    obtain ⟨a0,cap0,rfl,ha0⟩:∃ a0 cap0,v=.slice a0 F.length cap0∧(F.length=0∨∃ g,a0=some ⟨g,0,none⟩∧n0≤g∧F.length≤cap0):=by
     rcases zhd hrow with ⟨h,h0⟩ | ⟨g,cap,h,h1,_,h2⟩
     ·exact ⟨none,0,by rw [h,h0],.inl h0⟩
     ·exact ⟨_,_,h,.inr ⟨g,rfl,h1,h2⟩⟩
    obtain ⟨n,hn⟩:∃ n,F.length=n:=⟨_,rfl⟩
    rw [hn] at HL hcl hrow ha0 hgl
    have HN:=Lib.hid hn;have HA:=Lib.hid ha0;clear hn ha0
    gi_wp2
    go_wp2
    go_loopw [10,79] (fun _ i wr=>∃ k:Nat,i=.int .i64 k∧k≤n∧Hid (Boxed wr n0 45 (.slice a0 n cap0))∧Hid (Boxed wr (n0+1) 3 (.int .i64 at_))∧Hid (Boxed wr (n0+1+1) 26 (.int .i64 0))∧Hid (wr.ownsRow n0 80 2 (.slice a0 n cap0) n (zai ((F.take k).map (fun p=>(p.1,trimB p.2))++F.drop k)))∧Below n0 w wr∧Hid (wr.heap[D]? =some (.deferred (some []))))
     (fun _ i _=>n - (intOf i).toNat)
    case atStart=>exact ⟨0,rfl,Nat.zero_le _,HL,HBB,HE,Lib.hid (by simpa using hrow),hB,HK⟩
    case round =>
     clear hcl hcb hce hfl hfb hfe hrow HL HBB HE hB
     obtain ⟨k,rfl,hk,HL,HBB,HE,HROW,hB,HKr⟩:=hrel
     have hcl:=HL.out.cell;have hcb:=HBB.out.cell;have hce:=HE.out.cell
     have hfl:=HL.out.frozen;have hfb:=HBB.out.frozen;have hfe:=HE.out.frozen
     by_cases hlt:k<n
     ·obtain ⟨g,rfl,hg0,hcap⟩:∃ g,a0=some ⟨g,0,none⟩∧n0≤g∧n≤cap0:=HA.out.resolve_left (by omega)
      have hkF:k<F.length:=by rw [HN.out];exact hlt
      obtain ⟨q,hq⟩:∃ q,F[k]=q:=⟨_,rfl⟩
      have hmix:zai ((F.take k).map (fun p=>(p.1,trimB p.2))++F.drop k)=zai ((F.take k).map (fun p=>(p.1,trimB p.2)))++([.string ⟨q.1.toArray⟩,.string ⟨q.2.toArray⟩]++zai (F.drop (k+1))):=by
       rw [List.drop_eq_getElem_cons hkF,hq];simp [zai]
      have hml:(zai ((F.take k).map (fun p=>(p.1,trimB p.2)))).length=k * 2:=by rw [zb5,List.length_map,List.length_take];omega
      have hrow:=HROW.out
      rw [hmix] at hrow
      have hcell:=hrow.cellAt (k * 2+1) (by omega)
      rw [List.getElem?_append_right (by omega),hml,show k * 2+1 - k * 2=1 by omega] at hcell
      have hcell':wr.cell? ⟨g,k * 2+1,none⟩=some (.string ⟨q.2.toArray⟩):=hcell
      have hfro:=hrow.frozenAt (k * 2+1)
      have HRW:=Lib.hid hrow
      have hqv:=hgv q (by rw [← hq];exact List.getElem_mem _)
      have hqs:(ByteArray.mk q.2.toArray).size≤1000000000:=by show q.2.length≤_;omega
      have hne1:n0≠g:=fun e=>HL.out.not_row (by decide) HROW.out (by rw [e];rfl)
      have hne2:n0+1≠g:=fun e=>HBB.out.not_row (by decide) HROW.out (by rw [e];rfl)
      have hne3:n0+1+1≠g:=fun e=>HE.out.not_row (by decide) HROW.out (by rw [e];rfl)
      have HML:=Lib.hid hml;have HKF:=Lib.hid hkF;have HQ:=Lib.hid hq
      clear hcell hrow hmix hml hq
      have hki:(k:Int)<(n:Int):=by omega
      go_wp2
      have hglt:g<wr.heap.size:=World.block_lt_of_cell? wr _ hcell'
      have hclq:=fun d os=>cell_regrown hcl d os
      have hcgq:=fun d os=>cell_regrown hcell' d os
      (refine zfv 8 (by kernel_rfl) (by kernel_rfl) ?_;simp only [List.take_succ_cons,List.take_zero];(repeat (first | go_big_quiet_skip | (go_big_quiet_want;go_big_quiet_op;first | go_big_quiet_on | (apply Exists.intro;refine ⟨fun _=>?_,?_⟩;(· (go_at_call 124;exact zv5 (z2c _ · hqs)));go_big_quiet_on))));refine wpQuiet_nil ?_;intro wq hbq;simp only [List.drop_succ_cons,List.drop_zero])
      have hcg5:=(hbq.cell (p:=⟨g,k * 2+1,none⟩) hglt).trans hcell'
      have hfg5:=(hbq.frozen (p:=⟨g,k * 2+1,none⟩) hglt).trans hfro
      have hL5:=(hbq.block _ HL.out.lt).trans HL.out
      have hB5:=(hbq.block _ HBB.out.lt).trans HBB.out
      have hE5:=(hbq.block _ HE.out.lt).trans HE.out
      have hK5:=(hbq.block D (Array.getElem?_eq_some_iff.1 HKr.out).1).trans HKr.out
      have hR5:=(own_below HRW.out hbq).stored (k * 2+1) (.string ⟨(trimB q.2).toArray⟩)
      have hR6:=Lib.hid hR5.1
      have HL5:=Lib.hid hL5;have HB5:=Lib.hid hB5;have HE5:=Lib.hid hE5;have HK5:=Lib.hid hK5
      have hbel:=(hB.trans (hbq.mono (Nat.le_trans hwn hB.size))).setCell (p:=⟨g,k * 2+1,none⟩) hg0 (.string ⟨(trimB q.2).toArray⟩)
      have HBel:=Lib.hid hbel
      clear hclq hcgq hL5 hB5 hE5 hK5 hR5 hbel hcl hcb hce hfl hfb hfe hcell' hfro
      go_wp2
      go_roundw
      case rel =>
       refine ⟨k+1,by go_num,by omega,Lib.hid ((Below.heap_setCell _ _ _ _ hne1).trans HL5.out),Lib.hid ((Below.heap_setCell _ _ _ _ hne2).trans HB5.out),Lib.hid ((Below.heap_setCell _ _ _ _ hne3).trans HE5.out),Lib.hid ?_,HBel.out,Lib.hid ((Below.heap_setCell _ _ _ _ ?_).trans HK5.out)⟩
       ·have h:=hR6.out
        have e:(zai ((F.take k).map (fun p:Fld=>(p.1,trimB p.2)))++([Value.string ⟨q.1.toArray⟩,Value.string ⟨q.2.toArray⟩]++zai (F.drop (k+1)))).set (k * 2+1) (Value.string ⟨(trimB q.2).toArray⟩)=zai ((F.take (k+1)).map (fun p:Fld=>(p.1,trimB p.2))++F.drop (k+1)):=by
         rw [List.set_append_right _ _ (by rw [HML.out];omega),HML.out,show k * 2+1 - k * 2=1 by omega,List.take_succ_eq_append_getElem HKF.out,HQ.out]
         simp [zai]
        rw [e] at h
        exact h
       ·intro e
        subst e
        have h:=HKr.out
        have h2:=HRW.out
        rcases h2.2 with ⟨h',_⟩ | ⟨g',cap',cur,h',_,hh,_⟩
        ·simp at h'
        ·simp only [Value.slice.injEq,Option.some.injEq,Addr.mk.injEq,and_true,true_and] at h'
         rw [← h'.1,h] at hh;cases hh
      case measure=>simp [intOf];omega
     ·obtain rfl:k=n:=by omega
      go_wp2
      go_region
      all_goals
       go_wp2
       rw [HFo.out]
       have hK2:=(((KeepsOthers.setCell wr ⟨n0,0,none⟩ (.slice a0 k cap0)).trans (KeepsOthers.setCell _ ⟨n0+1,0,none⟩ (.int .i64 at_))).trans (KeepsOthers.setCell _ ⟨n0+1+1,0,none⟩ (.int .i64 0))).same D _ HKr.out rfl
       have h1:=(((HL.out.set (.slice a0 k cap0)).other (show n0≠n0+1 by omega) (.int .i64 at_)).other (show n0≠n0+1+1 by omega) (.int .i64 0))
       have h2:=(((HBB.out.other (show n0+1≠n0 by omega) (.slice a0 k cap0)).set (.int .i64 at_)).other (show n0+1≠n0+1+1 by omega) (.int .i64 0))
       have h3:=(((HE.out.other (show n0+1+1≠n0 by omega) (.slice a0 k cap0)).other (show n0+1+1≠n0+1 by omega) (.int .i64 at_)).set (.int .i64 0))
       have h4:=((hB.setCell (p:=⟨n0,0,none⟩) (Nat.le_refl _) (.slice a0 k cap0)).setCell (p:=⟨n0+1,0,none⟩) (by simp) (.int .i64 at_)).setCell (p:=⟨n0+1+1,0,none⟩) (by simp;omega) (.int .i64 0)
       have hr1:=zre HL.out (by decide) HROW.out (.slice a0 k cap0)
       have hr2:=zre (HBB.out.other (show n0+1≠n0 by omega) (.slice a0 k cap0)) (by decide) hr1 (.int .i64 at_)
       have hr3:=zre ((HE.out.other (show n0+1+1≠n0 by omega) (.slice a0 k cap0)).other (show n0+1+1≠n0+1 by omega) (.int .i64 at_)) (by decide) hr2 (.int .i64 0)
       have hr4:=ownsRow_putObj hr3 (.deferred none) hK2 rfl
       rw [List.take_of_length_le (by rw [HN.out];exact Nat.le_refl _),List.drop_of_length_le (by rw [HN.out];exact Nat.le_refl _),List.append_nil] at hr4
       refine ⟨by simp,.inl ⟨_,_,rfl,run_takeDeferred hK2,?_⟩⟩
       have hd0:D≠n0:=by omega
       have hd1:D≠n0+1:=by omega
       have hd2:D≠n0+1+1:=by omega
       have c1:=(zc2 hd0 h1 (.deferred none)).cell;have c2:=(zc2 hd1 h2 (.deferred none)).cell;have c3:=(zc2 hd2 h3 (.deferred none)).cell
       exact ⟨_,zjm c1 c2 c3,_,rfl,by rw [hn0,List.length_map,HN.out];exact hr4,by rw [hn0];exact (h4.drew).trans (belowK_b (w:=w) hwn _ D _ _ (by omega) hK2 rfl rfl)⟩
   ·replace hbe:Boxed W (n0+1+1) 26 (.int .i64 6):=hbe
    have hce:=hbe.cell;have hfe:=hbe.frozen
    have HE:=Lib.hid hbe;clear hbe
    have hform:zba s.data.toList=.long:=by unfold zba;rw [HR.out]
    have HFo:=Lib.hid hform;clear hform
    gi_wp2
    go_wp2
    go_region
    all_goals
     go_wp2
     rw [HFo.out]
     have hK2:=(((KeepsOthers.setCell W ⟨n0,0,none⟩ (.slice none 0 0)).trans (KeepsOthers.setCell _ ⟨n0+1,0,none⟩ (.int .i64 0))).trans (KeepsOthers.setCell _ ⟨n0+1+1,0,none⟩ (.int .i64 6))).same D _ HK.out rfl
     have h1:=(((HL.out.set (.slice none 0 0)).other (show n0≠n0+1 by omega) (.int .i64 0)).other (show n0≠n0+1+1 by omega) (.int .i64 6))
     have h2:=(((HBB.out.other (show n0+1≠n0 by omega) (.slice none 0 0)).set (.int .i64 0)).other (show n0+1≠n0+1+1 by omega) (.int .i64 6))
     have h3:=(((HE.out.other (show n0+1+1≠n0 by omega) (.slice none 0 0)).other (show n0+1+1≠n0+1 by omega) (.int .i64 0)).set (.int .i64 6))
     have h4:=((hB.setCell (p:=⟨n0,0,none⟩) (Nat.le_refl _) (.slice none 0 0)).setCell (p:=⟨n0+1,0,none⟩) (by simp) (.int .i64 0)).setCell (p:=⟨n0+1+1,0,none⟩) (by simp;omega) (.int .i64 6)
     refine ⟨by simp,.inl ⟨_,_,rfl,run_takeDeferred hK2,?_⟩⟩
     have hd0:D≠n0:=by omega
     have hd1:D≠n0+1:=by omega
     have hd2:D≠n0+1+1:=by omega
     have c1:=(zc2 hd0 h1 (.deferred none)).cell;have c2:=(zc2 hd1 h2 (.deferred none)).cell;have c3:=(zc2 hd2 h3 (.deferred none)).cell
     exact ⟨_,zjm c1 c2 c3,rfl,by rw [hn0];exact (h4.drew).trans (belowK_b (w:=w) hwn _ D _ _ (by omega) hK2 rfl rfl)⟩
end Go.Proofs.YtmpiobfdchlikaaGreatDoor
end
section
set_option synthInstance.maxSize 4000
namespace Nun
open Go Go.RowKit
theorem zlr {w w':World} (h:Below w.heap.size w w') (r:Option Nat):w.grownBy w' r:=⟨h.os,h.tape,h.output,h.size,fun k hk _=>h.block k hk⟩
theorem zdb {w w':World} {R B:Nat} (h:w.grownBy w' (some R)) (hR:B≤R) (hB:B≤w.heap.size):Below B w w':=⟨h.os,h.tape,h.output,h.size,fun k hk=>h.block k (by omega) (by intro e;cases e;omega)⟩
theorem zrf (s:ByteArray):(⟨s.data.toList.toArray⟩:ByteArray)=s:=by
 apply ByteArray.ext;apply Array.ext';rfl
theorem zz8 {s:ByteArray} (h:0<s.size):s.data.toList.isEmpty=false:=by
 rcases hd:s.data.toList with _ | ⟨c,l⟩
 ·have:s.size=0:=congrArg List.length hd
  omega
 ·rfl
end Nun
namespace Go.Proofs.YtmpiobfdchlikaaGreatDoor
open Go Go.RowKit Nun
theorem zdc (R:Nat) (l:List UInt8) (w:World) (hb:Boxed w R 199 (.string ⟨l.toArray⟩)) (t:List UInt8) (ht:l.dropWhile zal=t) :
 Calls Tryz.prog 173 #[.pointer (some ⟨R,0,none⟩)] w fun e w'=>e=.returned (.tuple #[])∧Boxed w' R 199 (.string ⟨t.toArray⟩)∧w.grownBy w' (some R):=by
 obtain ⟨s,hs⟩:∃ s:ByteArray,(⟨l.toArray⟩:ByteArray)=s:=⟨_,rfl⟩
 have h:=Any.strings_TrimLeft_laid Tryz.lays161 (by kernel_rfl) s ⟨#[32,9]⟩ w (by decide) (ascii_of_all (by decide))
 rw [show (ByteArray.mk #[32,9]).data.toList=[32,9] from rfl,zrc,← hs,show (ByteArray.mk l.toArray).data.toList=l from rfl,ht,hs] at h
 rw [hs] at hb
 obtain ⟨u,hu⟩:∃ u:ByteArray,(⟨t.toArray⟩:ByteArray)=u:=⟨_,rfl⟩
 rw [hu] at h ⊢
 have H:=Lib.hid h
 have hc:=hb.cell;have hf:=hb.frozen
 clear h hs ht hu
 go_enter Tryz.func173,Tryz.ntmps173
 go_wp2_with (go_at_call 209;refine H.out.mono ?_;rintro e w1 ⟨rfl,hb1⟩;have hbx1:=(hb1.block _ hb.lt).trans hb;have hc1:=Boxed.cell hbx1;have hf1:=Boxed.frozen hbx1)
 go_end0
 exact ⟨rfl,Boxed.set _ hbx1,(zlr hb1 _).trans (grownBy_setCell' _ _ _)⟩
theorem zrg (R:Nat) (c:UInt8) (l:List UInt8) (w:World) (hl:l.length≤1000000) (hb:Boxed w R 199 (.string ⟨l.toArray⟩)) (o:Option (List UInt8)) (ho:zes c l=o) :
 Calls Tryz.prog 175 #[.pointer (some ⟨R,0,none⟩),.int .u8 c.toNat] w fun e w'=>e=.returned (.bool o.isSome)∧Boxed w' R 199 (.string ⟨(o.getD l).toArray⟩)∧w.grownBy w' (some R):=by
 have hc:=hb.cell;have hf:=hb.frozen
 rcases l with _ | ⟨d,t⟩
 ·subst ho
  go_enter Tryz.func175,Tryz.ntmps175
  go_wp2
  go_ret
  exact ⟨rfl,hb,World.grownBy.refl _ _⟩
 ·rw [List.length_cons] at hl
  obtain ⟨s,hs⟩:∃ s:ByteArray,(⟨(d::t).toArray⟩:ByteArray)=s:=⟨_,rfl⟩
  have hsz:s.size=t.length+1:=by rw [← hs];rfl
  have hpos:0<s.size:=by omega
  have hd:s[0]=d:=by subst hs;rfl
  have htl:s.extract 1 s.size=⟨t.toArray⟩:=by
   apply ByteArray.ext;apply Array.ext'
   rw [Lib.extract_data,← hs];simp [ByteArray.size]
  by_cases hdc:d=c
  ·obtain rfl:o=some t:=by rw [← ho,zes,if_pos hdc]
   have hq:((s[0].toNat:Int) != (c.toNat:Int))=false:=by rw [hd,hdc];simp
   rw [hs] at hb hc
   have hb2:=Boxed.set (.string (s.extract 1 s.size)) hb
   rw [htl] at hb2
   have HB:=Lib.hid hb2
   have HS:=Lib.hid htl
   rw [← hsz] at hl
   clear hb2 hs hd htl ho hsz
   have hne:s.toList.isEmpty=false:=by rw [Lib.toList_data];exact zz8 hpos
   go_enter Tryz.func175,Tryz.ntmps175
   go_wp2
   go_ret
   rw [HS.out]
   exact ⟨rfl,HB.out,grownBy_setCell' _ _ _⟩
  ·obtain rfl:o=none:=by rw [← ho,zes,if_neg hdc]
   have hq:((s[0].toNat:Int) != (c.toNat:Int))=true:=by
    rw [hd,bne_iff_ne];intro h;exact hdc (UInt8.toNat_inj.1 (by omega))
   have HB:=Lib.hid hb
   rw [hs] at hb hc
   rw [← hsz] at hl
   clear hs hd htl ho hsz
   have hne:s.toList.isEmpty=false:=by rw [Lib.toList_data];exact zz8 hpos
   go_enter Tryz.func175,Tryz.ntmps175
   go_wp2
   go_ret
   exact ⟨rfl,HB.out,World.grownBy.refl _ _⟩
theorem zz9 (c:UInt8) (b:Bool) (h:decide (Go.Lib.indexByte [59,61,34,92] c<0)=b) (w:World) :
 Calls Tryz.prog 32 #[.string ⟨#[59,61,34,92]⟩,.int .u8 c.toNat] w fun e w'=>∃ n:Int,e=.returned (.int .i64 n)∧decide (n<0)=b∧w'=w:=by
 refine (Tryz.strings_IndexByte ⟨#[59,61,34,92]⟩ c.toNat w).mono ?_
 rintro e w' ⟨rfl,rfl⟩
 refine ⟨_,rfl,?_,rfl⟩
 rw [show ((c.toNat:Int).toNat).toUInt8=c by simp]
 exact h
set_option maxRecDepth 100000 in
theorem zhe (R:Nat) (l:List UInt8) (w:World) (hl:l.length≤1000000) (hb:Boxed w R 199 (.string ⟨l.toArray⟩)) (t r:List UInt8) (ht:l.takeWhile zbb=t) (hr:l.dropWhile zbb=r) :
 Calls Tryz.prog 174 #[.pointer (some ⟨R,0,none⟩)] w fun e w'=>e=.returned (.string ⟨t.toArray⟩)∧Boxed w' R 199 (.string ⟨r.toArray⟩)∧w.grownBy w' (some R):=by
 obtain ⟨s,hs⟩:∃ s:ByteArray,(⟨l.toArray⟩:ByteArray)=s:=⟨_,rfl⟩
 have hls:s.data.toList=l:=by rw [← hs]
 have hsz:s.size=l.length:=by rw [← hs];rfl
 rw [hs] at hb
 rw [← hls] at ht hr
 have HT:=Lib.hid ht;have HR:=Lib.hid hr
 have hc:=hb.cell;have hf:=hb.frozen
 rw [← hsz] at hl
 clear hs hls hsz ht hr
 go_enter Tryz.func174,Tryz.ntmps174
 go_wp2
 go_loopw [3] (fun i w4=>∃ k:Nat,i=.int .i64 k∧k≤s.size∧w4=w∧Hid (∀ j (h:j<s.data.toList.length),j<k→zbb s.data.toList[j]=true)) (fun i _=>s.size - (intOf i).toNat)
 case atStart=>exact ⟨0,rfl,Nat.zero_le _,rfl,Lib.hid (fun j _ h=>absurd h (Nat.not_lt_zero _))⟩
 case round =>
  obtain ⟨k,rfl,hk,rfl,hall⟩:=hrel
  have hend:(∀ h:k<s.data.toList.length,zbb s.data.toList[k]=false)→s.extract 0 k=⟨t.toArray⟩∧s.extract k s.size=⟨r.toArray⟩:=by
   intro h
   obtain ⟨h1,h2⟩:=zkh zbb s.data.toList k hall.out h hk
   rw [HT.out] at h1;rw [HR.out] at h2
   constructor
   ·apply ByteArray.ext;apply Array.ext'
    rw [Lib.extract_data,List.drop_zero,Nat.sub_zero,h1]
   ·apply ByteArray.ext;apply Array.ext'
    rw [Lib.extract_data,List.take_of_length_le (by rw [List.length_drop];exact Nat.le_refl _),h2]
  have HEND:=Lib.hid hend;clear hend
  by_cases hlt:k<s.size
  ·have hps:=zyc s[k]
   have hki:(k:Int)<(s.size:Int):=by omega
   have hmore:zbb s[k]=true→Hid (∀ j (h:j<s.data.toList.length),j<k+1→zbb s.data.toList[j]=true):=fun hp=>Lib.hid (fun j h hj=>by
    rcases Nat.lt_or_ge j k with h2 | h2
    ·exact hall.out j h h2
    ·obtain rfl:j=k:=by omega
     exact hp)
   have HM:=Lib.hid hmore;clear hmore
   have hstop:zbb s[k]=false→s.extract 0 k=⟨t.toArray⟩∧s.extract k s.size=⟨r.toArray⟩:=fun hp=>HEND.out (fun _=>hp)
   have HS:=Lib.hid hstop;clear hstop HEND
   rcases hA:decide ((s[k].toNat:Int) > 32) with _ | _
   ·rw [hA] at hps
    obtain ⟨e1,e2⟩:=HS.out hps
    have HE1:=Lib.hid e1;have HE2:=Lib.hid e2
    replace hA:¬ ((s[k].toNat:Int) > 32):=of_decide_eq_false hA
    clear hps e1 e2
    go_wp2
    go_ret
    rw [HE1.out,HE2.out]
    exact ⟨rfl,Boxed.set _ hb,grownBy_setCell' _ _ _⟩
   ·rcases hB:decide ((s[k].toNat:Int)<127) with _ | _
    ·rw [hA,hB] at hps
     obtain ⟨e1,e2⟩:=HS.out hps
     have HE1:=Lib.hid e1;have HE2:=Lib.hid e2
     replace hA:((s[k].toNat:Int) > 32):=of_decide_eq_true hA
     replace hB:¬ ((s[k].toNat:Int)<127):=of_decide_eq_false hB
     clear hps e1 e2
     go_wp2
     go_ret
     rw [HE1.out,HE2.out]
     exact ⟨rfl,Boxed.set _ hb,grownBy_setCell' _ _ _⟩
    ·rcases hC:decide (Go.Lib.indexByte [59,61,34,92] s[k]<0) with _ | _
     ·rw [hA,hB,hC] at hps
      obtain ⟨e1,e2⟩:=HS.out hps
      have HE1:=Lib.hid e1;have HE2:=Lib.hid e2;have HC:=Lib.hid hC
      replace hA:((s[k].toNat:Int) > 32):=of_decide_eq_true hA
      replace hB:((s[k].toNat:Int)<127):=of_decide_eq_true hB
      clear hps e1 e2 hC
      go_wp2_with (go_at_call 32;refine (zz9 s[k] false HC.out _).mono ?_;rintro e w1 ⟨n,rfl,hn,rfl⟩;replace hn:=of_decide_eq_false hn)
      go_ret
      rw [HE1.out,HE2.out]
      exact ⟨rfl,Boxed.set _ hb,grownBy_setCell' _ _ _⟩
     ·rw [hA,hB,hC] at hps
      have HMM:=HM.out hps
      have HC:=Lib.hid hC
      replace hA:((s[k].toNat:Int) > 32):=of_decide_eq_true hA
      replace hB:((s[k].toNat:Int)<127):=of_decide_eq_true hB
      clear hps hC
      go_wp2_with (go_at_call 32;refine (zz9 s[k] true HC.out _).mono ?_;rintro e w1 ⟨n,rfl,hn,rfl⟩;replace hn:=of_decide_eq_true hn)
      go_roundw
      case rel=>exact ⟨k+1,by go_num,by omega,trivial,HMM⟩
      case measure=>simp [intOf];omega
  ·have hki:¬ (k:Int)<(s.size:Int):=by omega
   have hk2:(k:Int)≤(s.size:Int):=by omega
   obtain ⟨e1,e2⟩:=HEND.out (fun h=>absurd h hlt)
   have HE1:=Lib.hid e1;have HE2:=Lib.hid e2
   clear e1 e2
   go_wp2
   go_ret
   rw [HE1.out,HE2.out]
   exact ⟨rfl,Boxed.set _ hb,grownBy_setCell' _ _ _⟩
end Go.Proofs.YtmpiobfdchlikaaGreatDoor
end
section
set_option synthInstance.maxSize 4000
namespace Nun
open Go Go.RowKit
def zet (l:List UInt8) (k:Nat):Option (List UInt8 × List UInt8):=ze6 (l.length - k+1) (l.drop k)
theorem zyi (l:List UInt8):zet l 0=ze6 (l.length+1) l:=by simp [zet]
theorem zs5 (l:List UInt8) (k:Nat) (h:l.length≤k):zet l k=none:=by
 unfold zet;rw [List.drop_of_length_le h];rfl
theorem zrh (l:List UInt8) (k:Nat) (h:k<l.length):zet l k=if l[k]=34 then some ([],l.drop (k+1)) else if l[k]<32∨126<l[k] then none else if l[k]=92 then (match l[k+1]? with
 | none=>none
 | some d=>if d=34∨d=92 then (zet l (k+2)).map fun p=>(d::p.1,p.2) else none)
 else (zet l (k+1)).map fun p=>(l[k]::p.1,p.2):=by
 unfold zet
 rw [List.drop_eq_getElem_cons h]
 conv=>lhs;unfold ze6
 rw [show l.length - k=l.length - (k+1)+1 by omega]
 by_cases h1:k+1<l.length
 ·rw [List.drop_eq_getElem_cons h1,qe h1]
  dsimp only
  rw [zh7 (l.length - (k+1)+1) (l.length - (k+2)+1) (l.drop (k+1+1)) (by rw [List.length_drop];omega) (by rw [List.length_drop];omega)]
 ·rw [List.getElem?_eq_none (by omega),List.drop_of_length_le (show l.length≤k+1 by omega)]
theorem b34:∀ c:UInt8,c=34→((c.toNat:Int) == 34)=true:=by decide +kernel
theorem b34n:∀ c:UInt8,¬ c=34→((c.toNat:Int) == 34)=false:=by decide +kernel
theorem b34m:∀ c:UInt8,¬ c=34→((c.toNat:Int) != 34)=true:=by decide +kernel
theorem b34o:∀ c:UInt8,c=34→((c.toNat:Int) != 34)=false:=by decide +kernel
theorem b92:∀ c:UInt8,c=92→((c.toNat:Int) == 92)=true:=by decide +kernel
theorem b92n:∀ c:UInt8,¬ c=92→((c.toNat:Int) == 92)=false:=by decide +kernel
theorem b92m:∀ c:UInt8,¬ c=92→((c.toNat:Int) != 92)=true:=by decide +kernel
theorem b92o:∀ c:UInt8,c=92→((c.toNat:Int) != 92)=false:=by decide +kernel
theorem b32:∀ c:UInt8,c<32→(c.toNat:Int)<32:=by decide +kernel
theorem b32n:∀ c:UInt8,¬ c<32→¬ (c.toNat:Int)<32:=by decide +kernel
theorem b126:∀ c:UInt8,126<c→(c.toNat:Int) > 126:=by decide +kernel
theorem ypl:∀ c:UInt8,¬ 126<c→¬ (c.toNat:Int) > 126:=by decide +kernel
end Nun
namespace Go.Proofs.YtmpiobfdchlikaaGreatDoor
open Go Go.RowKit Nun
def yi8 (R:Nat) (w:World):Option (List UInt8 × List UInt8)→Ending→World→Prop
 | none,e,w'=>e=.returned (.tuple #[.string ⟨#[]⟩,.bool false])∧w.grownBy w' (some R)
 | some (v,r),e,w'=>e=.returned (.tuple #[.string ⟨v.toArray⟩,.bool true])∧Boxed w' R 199 (.string ⟨r.toArray⟩)∧w.grownBy w' (some R)
theorem ziu {w wr:World} {R:Nat} (h:Below w.heap.size w wr):w.grownBy wr (some R):=zlr h _
set_option maxRecDepth 100000 in
theorem zri (R:Nat) (l:List UInt8) (w:World) (hl:l.length≤1000000) (hb:Boxed w R 199 (.string ⟨l.toArray⟩)) (Q:Option (List UInt8 × List UInt8)) (hQ:ze6 (l.length+1) l=Q) :
 Calls Tryz.prog 210 #[.pointer (some ⟨R,0,none⟩)] w (yi8 R w Q):=by
 obtain ⟨s,hs⟩:∃ s:ByteArray,(⟨l.toArray⟩:ByteArray)=s:=⟨_,rfl⟩
 have hls:s.data.toList=l:=by rw [← hs]
 have hsz:s.size=l.length:=by rw [← hs];rfl
 rw [hs] at hb
 rw [← zyi,← hls] at hQ
 have HQ:=Lib.hid hQ
 have hRl:=hb.lt
 have hfz:=hb.frozen
 rw [← hsz] at hl
 clear hs hls hsz hQ
 go_enter Tryz.func210,Tryz.ntmps210
 go_wp2
 go_step3
 go_wp2
 go_step3
 go_wp2
 go_loopw [4,5,6,20,23,30] (fun v i _ _ _ _ wr=>∃ (k:Nat) (acc:List UInt8),i=.int .i64 k∧k≤s.size∧acc.length≤k∧OwnB w.heap.size 5 v acc wr∧Below w.heap.size w wr∧Hid (Q=(zet s.data.toList k).map fun p=>(acc++p.1,p.2)))
  (fun _ i _ _ _ _ _=>s.size - (intOf i).toNat)
 case atStart=>exact ⟨0,[],rfl,Nat.zero_le _,Nat.le_refl _,OwnB.nil _ _ _,Below.refl _ _,Lib.hid (by rw [HQ.out];simp)⟩
 case round =>
  obtain ⟨k,acc,rfl,hk,hal,hown,hbel,hq⟩:=hrel
  have hbr:Boxed wr R 199 (.string s):=(hbel.block _ hRl).trans hb
  have hcr:=hbr.cell;have hfr:=hbr.frozen
  have HBR:=Lib.hid hbr;clear hbr
  by_cases hlt:k<s.size
  ·have hki:(k:Int)<(s.size:Int):=by omega
   have hkn:((k:Int) == (s.size:Int))=false:=by rw [beq_eq_false_iff_ne];omega
   have hq2:=hq.out
   rw [zrh _ k hlt] at hq2
   have hgs:s.data.toList[k]=s[k]:=rfl
   simp only [hgs] at hq2
   by_cases h34:s[k]=34
   ·rw [if_pos h34] at hq2
    have hx:=b34 _ h34
    have HF:=Lib.hid hq2
    have hw1:IntKind.i64.wrap ((k:Int)+1)=(k:Int)+1:=IntWalk.i64_in _ (by omega)
    have hw2:(0:Int)≤(k:Int)+1:=by omega
    have hw3:((k:Int)+1).toNat=k+1:=by omega
    have kc:=zg8 (P:=Tryz.prog) Tryz.underlying44 Tryz.underlying5 Tryz.underlying9 (World.ownsRow.kept hown (grownBy_setCell' wr R (.string (s.extract (k+1) s.size))) (.inr (fun e=>by have:=(World.ownsRow.lt hown R e).1;omega)))
    have HSET:=Lib.hid (Boxed.set (.string (s.extract (k+1) s.size)) HBR.out)
    clear hq2 h34
    go_wp2
    go_ret2
    rw [HF.out]
    refine ⟨?_,?_,(ziu hbel).trans (grownBy_setCell' _ _ _)⟩
    ·simp
    ·have e:s.extract (k+1) s.size=⟨(s.data.toList.drop (k+1)).toArray⟩:=by
      apply ByteArray.ext;apply Array.ext'
      rw [Lib.extract_data,List.take_of_length_le (by rw [List.length_drop];exact Nat.le_refl _)]
     have h:=HSET.out
     rw [e] at h ⊢
     exact h
   ·have hx:=b34n _ h34
    rw [if_neg h34] at hq2
    by_cases hbad:s[k]<32∨126<s[k]
    ·rw [if_pos hbad] at hq2
     have HF:=Lib.hid hq2
     clear hq2 h34
     rcases hbad with h | h
     ·have hy:=b32 _ h
      clear h
      go_wp2
      go_ret2
      rw [HF.out]
      exact ⟨rfl,ziu hbel⟩
     ·have hy:=b126 _ h
      have hz:¬ (s[k].toNat:Int)<32:=by omega
      clear h
      go_wp2
      go_ret2
      rw [HF.out]
      exact ⟨rfl,ziu hbel⟩
    ·rw [if_neg hbad] at hq2
     have hy:=b32n _ (fun h=>hbad (.inl h))
     have hz:=ypl _ (fun h=>hbad (.inr h))
     by_cases h92:s[k]=92
     ·rw [if_pos h92] at hq2
      have hu:=b92 _ h92
      have hw1:IntKind.i64.wrap ((k:Int)+1)=(k:Int)+1:=IntWalk.i64_in _ (by omega)
      by_cases hk1:k+1<s.size
      ·rw [qe (show k+1<s.data.toList.length from hk1)] at hq2
       have hgs1:s.data.toList[k+1]=s[k+1]:=rfl
       simp only [hgs1] at hq2
       have hki1:(k:Int)+1<(s.size:Int):=by omega
       have hkn1:((k:Int)+1 == (s.size:Int))=false:=by rw [beq_eq_false_iff_ne];omega
       by_cases hd:s[k+1]=34∨s[k+1]=92
       ·rw [if_pos hd] at hq2
        have HF:=Lib.hid (show Q=(zet s.data.toList (k+2)).map fun p=>((acc++[s[k+1]])++p.1,p.2) by rw [hq2];simp [Function.comp_def])
        clear hq2 h34 hbad h92 hq
        rcases hd with h | h
        ·have hv:=b34o _ h
         clear h
         go_wp2_with (at_builtin;refine zjv (by rfl) _ _ _ (by rfl) 5 Tryz.underlying44 infoByte w.heap.size wr _ _ (by rfl) hown (s[k+1]) (by rfl) (by omega) hbel.size ?_;intro g cap w1 hg hown1 hgr hb1 hsz1)
         go_roundw
         case rel=>exact ⟨k+2,acc++[s[k+1]],by go_num,by omega,by simp;omega,hown1,hbel.trans hb1,HF⟩
         case measure=>simp [intOf];omega
        ·have hv:=b92o _ h
         have hv2:((s[k+1].toNat:Int) != 34)=true:=by rw [h];rfl
         clear h
         go_wp2_with (at_builtin;refine zjv (by rfl) _ _ _ (by rfl) 5 Tryz.underlying44 infoByte w.heap.size wr _ _ (by rfl) hown (s[k+1]) (by rfl) (by omega) hbel.size ?_;intro g cap w1 hg hown1 hgr hb1 hsz1)
         go_roundw
         case rel=>exact ⟨k+2,acc++[s[k+1]],by go_num,by omega,by simp;omega,hown1,hbel.trans hb1,HF⟩
         case measure=>simp [intOf];omega
       ·rw [if_neg hd] at hq2
        have HF:=Lib.hid hq2
        have hv:=b34m _ (fun h=>hd (.inl h))
        have hv2:=b92m _ (fun h=>hd (.inr h))
        clear hq2 h34 hbad h92 hd
        go_wp2
        go_ret2
        rw [HF.out]
        exact ⟨rfl,ziu hbel⟩
      ·rw [List.getElem?_eq_none (show s.data.toList.length≤k+1 by show s.size≤_;omega)] at hq2
       have HF:=Lib.hid hq2
       have hkn1:((k:Int)+1 == (s.size:Int))=true:=by rw [beq_iff_eq];omega
       clear hq2 h34 hbad h92
       go_wp2
       go_ret2
       rw [HF.out]
       exact ⟨rfl,ziu hbel⟩
     ·rw [if_neg h92] at hq2
      have hu:=b92n _ h92
      have HF:=Lib.hid (show Q=(zet s.data.toList (k+1)).map fun p=>((acc++[s[k]])++p.1,p.2) by rw [hq2];simp [Function.comp_def])
      clear hq2 h34 hbad h92 hq
      go_wp2_with (at_builtin;refine zjv (by rfl) _ _ _ (by rfl) 5 Tryz.underlying44 infoByte w.heap.size wr _ _ (by rfl) hown (s[k]) (by rfl) (by omega) hbel.size ?_;intro g cap w1 hg hown1 hgr hb1 hsz1)
      go_roundw
      case rel=>exact ⟨k+1,acc++[s[k]],by go_num,by omega,by simp;omega,hown1,hbel.trans hb1,HF⟩
      case measure=>simp [intOf];omega
  ·have hki:¬ (k:Int)<(s.size:Int):=by omega
   have hkn:((k:Int) == (s.size:Int))=true:=by rw [beq_iff_eq];omega
   have HF:=Lib.hid (show Q=none by rw [hq.out,zs5 _ _ (show s.data.toList.length≤k by show s.size≤_;omega)];rfl)
   go_wp2
   go_ret2
   rw [HF.out]
   exact ⟨rfl,ziu hbel⟩
end Go.Proofs.YtmpiobfdchlikaaGreatDoor
end
section
set_option synthInstance.maxSize 4000
namespace Nun
open Go Go.RowKit
def zbm (w:World) (B t:Nat) (a b:ByteArray):Prop:=w.heap[B]? =some (.cells #[.string a,.string b] t (0,0))
theorem zbm.lt {w:World} {B t:Nat} {a b:ByteArray} (h:zbm w B t a b):B<w.heap.size:=(Array.getElem?_eq_some_iff.1 h).1
theorem zbm.cell0 {w:World} {B t:Nat} {a b:ByteArray} (h:zbm w B t a b):w.cell? ⟨B,0,none⟩=some (.string a):=by simp [World.cell?,show w.heap[B]? =_ from h]
theorem zbm.cell1 {w:World} {B t:Nat} {a b:ByteArray} (h:zbm w B t a b):w.cell? ⟨B,1,none⟩=some (.string b):=by simp [World.cell?,show w.heap[B]? =_ from h]
theorem zbm.frozen0 {w:World} {B t:Nat} {a b:ByteArray} (h:zbm w B t a b):w.frozen? ⟨B,0,none⟩=false:=by simp [World.frozen?,show w.heap[B]? =_ from h]
theorem zbm.frozen1 {w:World} {B t:Nat} {a b:ByteArray} (h:zbm w B t a b):w.frozen? ⟨B,1,none⟩=false:=by simp [World.frozen?,show w.heap[B]? =_ from h]
theorem zbm.kept {w w':World} {B t:Nat} {a b:ByteArray} {r:Option Nat} (h:zbm w B t a b) (k:w.grownBy w' r) (hne:some B≠r):zbm w' B t a b:=(k.block B h.lt hne).trans h
theorem zbm.set0 {w:World} {B t:Nat} {a b:ByteArray} (h:zbm w B t a b) (c:ByteArray):zbm (w.setCell ⟨B,0,none⟩ (.string c)) B t c b:=by
 obtain ⟨hlt,hk⟩:=Array.getElem?_eq_some_iff.1 h
 show (w.heap.modify B _)[B]? =_
 rw [Array.getElem?_eq_getElem (by rw [Array.size_modify];exact hlt),Array.getElem_modify_self,hk]
 rfl
theorem zbm.set1 {w:World} {B t:Nat} {a b:ByteArray} (h:zbm w B t a b) (c:ByteArray):zbm (w.setCell ⟨B,1,none⟩ (.string c)) B t a c:=by
 obtain ⟨hlt,hk⟩:=Array.getElem?_eq_some_iff.1 h
 show (w.heap.modify B _)[B]? =_
 rw [Array.getElem?_eq_getElem (by rw [Array.size_modify];exact hlt),Array.getElem_modify_self,hk]
 rfl
theorem zef (w:World) (B k:Nat) (v:Value):w.grownBy (w.setCell ⟨B,k,none⟩ v) (some B):=by
 refine ⟨rfl,rfl,rfl,by simp,fun i hi hne=>?_⟩
 have hBi:B≠i:=fun e=>hne (by rw [e])
 show (w.heap.modify B _)[i]? =_
 rw [Array.getElem?_modify,if_neg hBi]
theorem grown_fresh {w w':World} {R B k:Nat} {v:Value} (h:w.grownBy w' (some R)) (hB:w.heap.size≤B):w.grownBy (w'.setCell ⟨B,k,none⟩ v) (some R) :=
 World.grownBy.andThen h (zef w' B k v) (fun j e=>by cases e;exact .inl hB)
theorem zn1 {w w':World} {r:Option Nat} (h:w.grownBy w' r):w.grownBy w'.drew r:=⟨h.os,h.tape,h.output,h.size,h.block⟩
theorem zbm.new (w:World) (t:Nat) (a b:ByteArray):zbm (w.alloc (.cells #[.string a,.string b] t)) w.heap.size t a b:=World.alloc_heap_new w _
end Nun
namespace Go.Proofs.YtmpiobfdchlikaaGreatDoor
open Go Go.RowKit Nun
theorem zws (R:Nat) (l:List UInt8) (w:World) (hl:l.length≤1000000) (hb:Boxed w R 199 (.string ⟨l.toArray⟩)) (o:Option (List UInt8)) (ho:zes 61 l=o) :
 Calls Tryz.prog 175 #[.pointer (some ⟨R,0,none⟩),.int .u8 61] w fun e w'=>e=.returned (.bool o.isSome)∧Boxed w' R 199 (.string ⟨(o.getD l).toArray⟩)∧w.grownBy w' (some R):=zrg R 61 l w hl hb o ho
theorem z0a (R:Nat) (l:List UInt8) (w:World) (hl:l.length≤1000000) (hb:Boxed w R 199 (.string ⟨l.toArray⟩)) (o:Option (List UInt8)) (ho:zes 34 l=o) :
 Calls Tryz.prog 175 #[.pointer (some ⟨R,0,none⟩),.int .u8 34] w fun e w'=>e=.returned (.bool o.isSome)∧Boxed w' R 199 (.string ⟨(o.getD l).toArray⟩)∧w.grownBy w' (some R):=zrg R 34 l w hl hb o ho
theorem z0b (R:Nat) (l:List UInt8) (w:World) (hl:l.length≤1000000) (hb:Boxed w R 199 (.string ⟨l.toArray⟩)) (o:Option (List UInt8)) (ho:zes 59 l=o) :
 Calls Tryz.prog 175 #[.pointer (some ⟨R,0,none⟩),.int .u8 59] w fun e w'=>e=.returned (.bool o.isSome)∧Boxed w' R 199 (.string ⟨(o.getD l).toArray⟩)∧w.grownBy w' (some R):=zrg R 59 l w hl hb o ho
theorem ziv (s:ByteArray) (b:Bool) (h:zgv s.data.toList=b) (w:World) (hs:s.size≤maxLen):Calls Tryz.prog 123 #[.string s] w (Same (.bool b) w):=h ▸ zwg s w hs
theorem zfe {w:World} {tmps:Array Value} {B:Nat} {a b:ByteArray} {ok:Bool} (h:zbm w B 114 a b)
 (h2:tmps.getD 2 undef=.pointer (some ⟨B,0,none⟩):=by rfl) (h3:tmps.getD 3 undef=.bool ok:=by rfl) :
 (results Tryz.f176 tmps).run Tryz.prog w=.ok (.tuple #[.agg #[.string a,.string b],.bool ok]) w:=by
 rw [Array.getD_eq_getD_getElem?] at h2 h3
 have c0:=h.cell0;have c1:=h.cell1
 simp [results,Tryz.results176,go_sem,c0,c1,h2,h3]
def yrm (R:Nat) (w:World):Option (Fld × List UInt8)→Ending→World→Prop
 | none,e,w'=>(∃ a b,e=.returned (.tuple #[.agg #[.string a,.string b],.bool false]))∧w.grownBy w' (some R)
 | some (p,r),e,w'=>e=.returned (.tuple #[.agg #[.string ⟨p.1.toArray⟩,.string ⟨p.2.toArray⟩],.bool true])∧Boxed w' R 199 (.string ⟨r.toArray⟩)∧w.grownBy w' (some R)
set_option maxRecDepth 100000 in
theorem zn2 (R:Nat) (l:List UInt8) (w:World) (hl:l.length≤1000000) (hb:Boxed w R 199 (.string ⟨l.toArray⟩)) (Q:Option (Fld × List UInt8)) (hQ:zjr l=Q) :
 Calls Tryz.prog 176 #[.pointer (some ⟨R,0,none⟩)] w (yrm R w Q):=by
 obtain ⟨l1,h1⟩:∃ l1,l.dropWhile zal=l1:=⟨_,rfl⟩
 obtain ⟨k,hk⟩:∃ k,l1.takeWhile zbb=k:=⟨_,rfl⟩
 obtain ⟨l2,h2⟩:∃ l2,l1.dropWhile zbb=l2:=⟨_,rfl⟩
 unfold zjr at hQ
 rw [h1,hk,h2] at hQ
 have hl1:l1.length≤1000000:=by have:=zbc zal l;rw [h1] at this;omega
 have hl2:l2.length≤1000000:=by have:=zbc zbb l1;rw [h2] at this;omega
 have hlk:k.length≤1000000:=by have:=zfs zbb l1;rw [hk] at this;omega
 have hb0:Boxed (w.alloc (.cells #[.string ⟨#[]⟩,.string ⟨#[]⟩] 114)) R 199 (.string ⟨l.toArray⟩):=hb.alloc _
 have hp0:=zbm.new w 114 ⟨#[]⟩ ⟨#[]⟩
 have hRl:=hb.lt
 have HB0:=Lib.hid hb0;have HP0:=Lib.hid hp0;have H1:=Lib.hid h1;have HK:=Lib.hid hk;have H2:=Lib.hid h2;have HQ:=Lib.hid hQ
 clear hb0 hp0 h1 hk h2 hQ hb
 obtain ⟨K,hK⟩:∃ K:ByteArray,(⟨k.toArray⟩:ByteArray)=K:=⟨_,rfl⟩
 have hKs:K.size≤maxLen:=by rw [← hK];show k.length≤maxLen;unfold maxLen;omega
 have hKd:K.data.toList=k:=by rw [← hK]
 have HKK:=Lib.hid hK;clear hK
 have hne:some w.heap.size≠some R:=by simp;omega
 rcases hn:zgv k with _ | _
 ·have HN:=Lib.hid (show zgv K.data.toList=false by rw [hKd];exact hn)
  have hq:=HQ.out
  rw [hn,if_neg (by simp)] at hq
  subst hq
  clear hn hKd
  go_enter Tryz.func176,Tryz.ntmps176
  go_wp2_with (first | (go_at_call 173;refine (zdc R l _ HB0.out l1 H1.out).mono ?_;rintro e w1 ⟨rfl,hb1,hg1⟩;have HG1:=Lib.hid hg1;have HB1:=Lib.hid hb1;clear hg1 hb1) | (go_at_call 174;refine (zhe R l1 _ hl1 HB1.out k l2 HK.out H2.out).mono ?_;rintro e w2 ⟨rfl,hb2,hg2⟩;clear HK;rw [HKK.out];have hB2:=(HP0.out.kept HG1.out hne).kept hg2 hne;have HG2:=Lib.hid (((World.grownBy_alloc w _ _).trans HG1.out).trans hg2);have HB2:=Lib.hid (Boxed.alloc hb2 (.cells #[.string K,.string ⟨#[]⟩] 114));have HBB:=Lib.hid (hB2.kept (World.grownBy_alloc w2 (.cells #[.string K,.string ⟨#[]⟩] 114) none) (by simp));have hPP:=zbm.new w2 114 K ⟨#[]⟩;have hRw:R<w2.heap.size:=Boxed.lt hb2;have hBw:w.heap.size<w2.heap.size:=zbm.lt hB2;have hneP:some w2.heap.size≠some R:=(by simp;omega);have HG2a:=Lib.hid (HG2.out.trans (World.grownBy_alloc w2 (.cells #[.string K,.string ⟨#[]⟩] 114) (some R)));have HPP:=Lib.hid hPP;have hBc0:=hB2.cell0;have hBc1:=hB2.cell1;have hBf0:=hB2.frozen0;have hBf1:=hB2.frozen1;have HBW:=Lib.hid hB2;clear hg2 hb2 hB2 hPP) | (go_at_call 123;refine (ziv K false HN.out _ hKs).mono ?_;rintro e w3 ⟨rfl,rfl⟩))
  refine bodyPost_ret (zfe (((HBW.out.set0 K).set1 ⟨#[]⟩).kept (World.grownBy_alloc _ _ none) (by simp))) rfl ?_
  exact ⟨⟨_,_,rfl⟩,(grown_fresh (grown_fresh HG2.out (Nat.le_refl _)) (Nat.le_refl _)).trans (World.grownBy_alloc _ _ _)⟩
 ·have HN:=Lib.hid (show zgv K.data.toList=true by rw [hKd];exact hn)
  rcases hs:zes 61 l2 with _ | l3
  ·have HS:=Lib.hid hs
   have hq:=HQ.out
   rw [hn,if_pos rfl,hs] at hq
   subst hq
   clear hn hKd hs
   go_enter Tryz.func176,Tryz.ntmps176
   go_wp2_with (first | (go_at_call 173;refine (zdc R l _ HB0.out l1 H1.out).mono ?_;rintro e w1 ⟨rfl,hb1,hg1⟩;have HG1:=Lib.hid hg1;have HB1:=Lib.hid hb1;clear hg1 hb1) | (go_at_call 174;refine (zhe R l1 _ hl1 HB1.out k l2 HK.out H2.out).mono ?_;rintro e w2 ⟨rfl,hb2,hg2⟩;clear HK;rw [HKK.out];have hB2:=(HP0.out.kept HG1.out hne).kept hg2 hne;have HG2:=Lib.hid (((World.grownBy_alloc w _ _).trans HG1.out).trans hg2);have HB2:=Lib.hid (Boxed.alloc hb2 (.cells #[.string K,.string ⟨#[]⟩] 114));have HBB:=Lib.hid (hB2.kept (World.grownBy_alloc w2 (.cells #[.string K,.string ⟨#[]⟩] 114) none) (by simp));have hPP:=zbm.new w2 114 K ⟨#[]⟩;have hRw:R<w2.heap.size:=Boxed.lt hb2;have hBw:w.heap.size<w2.heap.size:=zbm.lt hB2;have hneP:some w2.heap.size≠some R:=(by simp;omega);have HG2a:=Lib.hid (HG2.out.trans (World.grownBy_alloc w2 (.cells #[.string K,.string ⟨#[]⟩] 114) (some R)));have HPP:=Lib.hid hPP;have hBc0:=hB2.cell0;have hBc1:=hB2.cell1;have hBf0:=hB2.frozen0;have hBf1:=hB2.frozen1;have HBW:=Lib.hid hB2;clear hg2 hb2 hB2 hPP) | (go_at_call 123;refine (ziv K true HN.out _ hKs).mono ?_;rintro e w3 ⟨rfl,rfl⟩) | (go_at_call 175;refine (zws R l2 _ hl2 HB2.out none HS.out).mono ?_;rintro e w3 ⟨rfl,hb3,hg3⟩;clear HS;have hP3:=HPP.out.kept hg3 hneP;have hB3:=HBB.out.kept hg3 hne;have HG3:=Lib.hid (HG2a.out.trans hg3);have HB3:=Lib.hid hb3;have HP3:=Lib.hid hP3;have HBB3:=Lib.hid hB3;have c0:=hP3.cell0;have c1:=hP3.cell1;have f0:=hP3.frozen0;have f1:=hP3.frozen1;have d0:=hB3.cell0;have d1:=hB3.cell1;have e0:=hB3.frozen0;have e1:=hB3.frozen1;clear hb3 hg3 hP3 hB3))
   refine bodyPost_ret (zfe ((HBB3.out.set0 K).set1 ⟨#[]⟩)) rfl ?_
   exact ⟨⟨_,_,rfl⟩,grown_fresh (grown_fresh HG3.out (Nat.le_refl _)) (Nat.le_refl _)⟩
  ·have HS:=Lib.hid hs
   have hl3:l3.length≤1000000:=by have:=congrArg List.length (zkg hs);rw [List.length_cons] at this;omega
   have hBP:some w.heap.size≠some R:=hne
   rcases hs2:zes 34 l3 with _ | l4
   ·obtain ⟨v,hv⟩:∃ v,l3.takeWhile zbb=v:=⟨_,rfl⟩
    obtain ⟨r,hr⟩:∃ r,l3.dropWhile zbb=r:=⟨_,rfl⟩
    obtain ⟨V,hVV⟩:∃ V:ByteArray,(⟨v.toArray⟩:ByteArray)=V:=⟨_,rfl⟩
    have HT:=Lib.hid hs2;have HVV:=Lib.hid hv;have HRR:=Lib.hid hr;have HV:=Lib.hid hVV
    have hq:=HQ.out
    rw [hn,if_pos rfl,hs] at hq
    dsimp only at hq
    rw [hs2] at hq
    dsimp only at hq
    rw [hv,hr] at hq
    by_cases hv0:v=[]
    ·rw [if_pos hv0] at hq
     subst hq
     have hem:V.toList.isEmpty=true:=by rw [Lib.toList_data,← hVV,hv0];rfl
     clear hn hKd hs hs2 hv hr hVV hv0
     go_enter Tryz.func176,Tryz.ntmps176
     go_wp2_with (first | (go_at_call 173;refine (zdc R l _ HB0.out l1 H1.out).mono ?_;rintro e w1 ⟨rfl,hb1,hg1⟩;have HG1:=Lib.hid hg1;have HB1:=Lib.hid hb1;clear hg1 hb1) | (go_at_call 174;refine (zhe R l1 _ hl1 HB1.out k l2 HK.out H2.out).mono ?_;rintro e w2 ⟨rfl,hb2,hg2⟩;clear HK;rw [HKK.out];have hB2:=(HP0.out.kept HG1.out hne).kept hg2 hne;have HG2:=Lib.hid (((World.grownBy_alloc w _ _).trans HG1.out).trans hg2);have HB2:=Lib.hid (Boxed.alloc hb2 (.cells #[.string K,.string ⟨#[]⟩] 114));have HBB:=Lib.hid (hB2.kept (World.grownBy_alloc w2 (.cells #[.string K,.string ⟨#[]⟩] 114) none) (by simp));have hPP:=zbm.new w2 114 K ⟨#[]⟩;have hRw:R<w2.heap.size:=Boxed.lt hb2;have hBw:w.heap.size<w2.heap.size:=zbm.lt hB2;have hneP:some w2.heap.size≠some R:=(by simp;omega);have HG2a:=Lib.hid (HG2.out.trans (World.grownBy_alloc w2 (.cells #[.string K,.string ⟨#[]⟩] 114) (some R)));have HPP:=Lib.hid hPP;have hBc0:=hB2.cell0;have hBc1:=hB2.cell1;have hBf0:=hB2.frozen0;have hBf1:=hB2.frozen1;have HBW:=Lib.hid hB2;clear hg2 hb2 hB2 hPP) | (go_at_call 123;refine (ziv K true HN.out _ hKs).mono ?_;rintro e w3 ⟨rfl,rfl⟩) | (go_at_call 175;refine (zws R l2 _ hl2 HB2.out (some l3) HS.out).mono ?_;rintro e w3 ⟨rfl,hb3,hg3⟩;clear HS;have hP3:=HPP.out.kept hg3 hneP;have hB3:=HBB.out.kept hg3 hne;have HG3:=Lib.hid (HG2a.out.trans hg3);have HB3:=Lib.hid hb3;have HP3:=Lib.hid hP3;have HBB3:=Lib.hid hB3;have c0:=hP3.cell0;have c1:=hP3.cell1;have f0:=hP3.frozen0;have f1:=hP3.frozen1;have d0:=hB3.cell0;have d1:=hB3.cell1;have e0:=hB3.frozen0;have e1:=hB3.frozen1;clear hb3 hg3 hP3 hB3) | (go_at_call 175;refine (z0a R l3 _ hl3 HB3.out none HT.out).mono ?_;rintro e w4 ⟨rfl,hb4,hg4⟩;clear HT;have hP4:=HP3.out.kept hg4 hneP;have hB4:=HBB3.out.kept hg4 hne;have HG4:=Lib.hid (HG3.out.trans hg4);have HB4:=Lib.hid hb4;have HP4:=Lib.hid hP4;have HBB4:=Lib.hid hB4;have c40:=hP4.cell0;have c41:=hP4.cell1;have f40:=hP4.frozen0;have f41:=hP4.frozen1;have d40:=hB4.cell0;have d41:=hB4.cell1;have e40:=hB4.frozen0;have e41:=hB4.frozen1;clear hb4 hg4 hP4 hB4) | (go_at_call 174;refine (zhe R l3 _ hl3 HB4.out v r HVV.out HRR.out).mono ?_;rintro e w5 ⟨rfl,hb5,hg5⟩;rw [HV.out];have hP5:=HP4.out.kept hg5 hneP;have hB5:=HBB4.out.kept hg5 hne;have HG5:=Lib.hid (HG4.out.trans hg5);have HB5:=Lib.hid hb5;have HP5:=Lib.hid hP5;have HBB5:=Lib.hid hB5;have c50:=hP5.cell0;have c51:=hP5.cell1;have f50:=hP5.frozen0;have f51:=hP5.frozen1;have d50:=hB5.cell0;have d51:=hB5.cell1;have e50:=hB5.frozen0;have e51:=hB5.frozen1;clear hb5 hg5 hP5 hB5))
     go_region
     all_goals
      go_wp2
      refine bodyPost_ret (zfe (((HBB5.out.kept (zef _ _ 1 (.string V)) (by simp;omega)).set0 K).set1 V)) rfl ?_
      exact ⟨⟨_,_,rfl⟩,zn1 (grown_fresh (grown_fresh (grown_fresh HG5.out (Nat.le_of_lt hBw)) (Nat.le_refl _)) (Nat.le_refl _))⟩
    ·rw [if_neg hv0] at hq
     subst hq
     have hem:V.toList.isEmpty=false:=by
      rw [Lib.toList_data,← hVV]
      rcases v with _ | ⟨c,u⟩
      ·exact absurd rfl hv0
      ·rfl
     clear hn hKd hs hs2 hv hr hVV hv0
     go_enter Tryz.func176,Tryz.ntmps176
     go_wp2_with (first | (go_at_call 173;refine (zdc R l _ HB0.out l1 H1.out).mono ?_;rintro e w1 ⟨rfl,hb1,hg1⟩;have HG1:=Lib.hid hg1;have HB1:=Lib.hid hb1;clear hg1 hb1) | (go_at_call 174;refine (zhe R l1 _ hl1 HB1.out k l2 HK.out H2.out).mono ?_;rintro e w2 ⟨rfl,hb2,hg2⟩;clear HK;rw [HKK.out];have hB2:=(HP0.out.kept HG1.out hne).kept hg2 hne;have HG2:=Lib.hid (((World.grownBy_alloc w _ _).trans HG1.out).trans hg2);have HB2:=Lib.hid (Boxed.alloc hb2 (.cells #[.string K,.string ⟨#[]⟩] 114));have HBB:=Lib.hid (hB2.kept (World.grownBy_alloc w2 (.cells #[.string K,.string ⟨#[]⟩] 114) none) (by simp));have hPP:=zbm.new w2 114 K ⟨#[]⟩;have hRw:R<w2.heap.size:=Boxed.lt hb2;have hBw:w.heap.size<w2.heap.size:=zbm.lt hB2;have hneP:some w2.heap.size≠some R:=(by simp;omega);have HG2a:=Lib.hid (HG2.out.trans (World.grownBy_alloc w2 (.cells #[.string K,.string ⟨#[]⟩] 114) (some R)));have HPP:=Lib.hid hPP;have hBc0:=hB2.cell0;have hBc1:=hB2.cell1;have hBf0:=hB2.frozen0;have hBf1:=hB2.frozen1;have HBW:=Lib.hid hB2;clear hg2 hb2 hB2 hPP) | (go_at_call 123;refine (ziv K true HN.out _ hKs).mono ?_;rintro e w3 ⟨rfl,rfl⟩) | (go_at_call 175;refine (zws R l2 _ hl2 HB2.out (some l3) HS.out).mono ?_;rintro e w3 ⟨rfl,hb3,hg3⟩;clear HS;have hP3:=HPP.out.kept hg3 hneP;have hB3:=HBB.out.kept hg3 hne;have HG3:=Lib.hid (HG2a.out.trans hg3);have HB3:=Lib.hid hb3;have HP3:=Lib.hid hP3;have HBB3:=Lib.hid hB3;have c0:=hP3.cell0;have c1:=hP3.cell1;have f0:=hP3.frozen0;have f1:=hP3.frozen1;have d0:=hB3.cell0;have d1:=hB3.cell1;have e0:=hB3.frozen0;have e1:=hB3.frozen1;clear hb3 hg3 hP3 hB3) | (go_at_call 175;refine (z0a R l3 _ hl3 HB3.out none HT.out).mono ?_;rintro e w4 ⟨rfl,hb4,hg4⟩;clear HT;have hP4:=HP3.out.kept hg4 hneP;have hB4:=HBB3.out.kept hg4 hne;have HG4:=Lib.hid (HG3.out.trans hg4);have HB4:=Lib.hid hb4;have HP4:=Lib.hid hP4;have HBB4:=Lib.hid hB4;have c40:=hP4.cell0;have c41:=hP4.cell1;have f40:=hP4.frozen0;have f41:=hP4.frozen1;have d40:=hB4.cell0;have d41:=hB4.cell1;have e40:=hB4.frozen0;have e41:=hB4.frozen1;clear hb4 hg4 hP4 hB4) | (go_at_call 174;refine (zhe R l3 _ hl3 HB4.out v r HVV.out HRR.out).mono ?_;rintro e w5 ⟨rfl,hb5,hg5⟩;rw [HV.out];have hP5:=HP4.out.kept hg5 hneP;have hB5:=HBB4.out.kept hg5 hne;have HG5:=Lib.hid (HG4.out.trans hg5);have HB5:=Lib.hid hb5;have HP5:=Lib.hid hP5;have HBB5:=Lib.hid hB5;have c50:=hP5.cell0;have c51:=hP5.cell1;have f50:=hP5.frozen0;have f51:=hP5.frozen1;have d50:=hB5.cell0;have d51:=hB5.cell1;have e50:=hB5.frozen0;have e51:=hB5.frozen1;clear hb5 hg5 hP5 hB5))
     go_region
     all_goals
      go_wp2
      refine bodyPost_ret (zfe (((HBB5.out.kept (zef _ _ 1 (.string V)) (by simp;omega)).set0 K).set1 V)) rfl ?_
      exact ⟨by rw [← HKK.out,← HV.out],((HB5.out.kept (zef _ w2.heap.size 1 (.string V)) (by simp;omega)).kept (zef _ w.heap.size 0 (.string K)) (by simp;omega)).kept (zn1 (zef _ w.heap.size 1 (.string V))) (Ne.symm hne),zn1 (grown_fresh (grown_fresh (grown_fresh HG5.out (Nat.le_of_lt hBw)) (Nat.le_refl _)) (Nat.le_refl _))⟩
   ·have HT:=Lib.hid hs2
    have hl4:l4.length≤1000000:=by have:=congrArg List.length (zkg hs2);rw [List.length_cons] at this;omega
    have hq:=HQ.out
    rw [hn,if_pos rfl,hs] at hq
    dsimp only at hq
    rw [hs2] at hq
    dsimp only at hq
    rcases hqq:ze6 (l4.length+1) l4 with _ | ⟨v,r⟩
    ·rw [hqq] at hq
     replace hq:none=Q:=hq
     subst hq
     have HQQ:=Lib.hid hqq
     clear hn hKd hs hs2 hqq
     go_enter Tryz.func176,Tryz.ntmps176
     go_wp2_with (first | (go_at_call 173;refine (zdc R l _ HB0.out l1 H1.out).mono ?_;rintro e w1 ⟨rfl,hb1,hg1⟩;have HG1:=Lib.hid hg1;have HB1:=Lib.hid hb1;clear hg1 hb1) | (go_at_call 174;refine (zhe R l1 _ hl1 HB1.out k l2 HK.out H2.out).mono ?_;rintro e w2 ⟨rfl,hb2,hg2⟩;clear HK;rw [HKK.out];have hB2:=(HP0.out.kept HG1.out hne).kept hg2 hne;have HG2:=Lib.hid (((World.grownBy_alloc w _ _).trans HG1.out).trans hg2);have HB2:=Lib.hid (Boxed.alloc hb2 (.cells #[.string K,.string ⟨#[]⟩] 114));have HBB:=Lib.hid (hB2.kept (World.grownBy_alloc w2 (.cells #[.string K,.string ⟨#[]⟩] 114) none) (by simp));have hPP:=zbm.new w2 114 K ⟨#[]⟩;have hRw:R<w2.heap.size:=Boxed.lt hb2;have hBw:w.heap.size<w2.heap.size:=zbm.lt hB2;have hneP:some w2.heap.size≠some R:=(by simp;omega);have HG2a:=Lib.hid (HG2.out.trans (World.grownBy_alloc w2 (.cells #[.string K,.string ⟨#[]⟩] 114) (some R)));have HPP:=Lib.hid hPP;have hBc0:=hB2.cell0;have hBc1:=hB2.cell1;have hBf0:=hB2.frozen0;have hBf1:=hB2.frozen1;have HBW:=Lib.hid hB2;clear hg2 hb2 hB2 hPP) | (go_at_call 123;refine (ziv K true HN.out _ hKs).mono ?_;rintro e w3 ⟨rfl,rfl⟩) | (go_at_call 175;refine (zws R l2 _ hl2 HB2.out (some l3) HS.out).mono ?_;rintro e w3 ⟨rfl,hb3,hg3⟩;clear HS;have hP3:=HPP.out.kept hg3 hneP;have hB3:=HBB.out.kept hg3 hne;have HG3:=Lib.hid (HG2a.out.trans hg3);have HB3:=Lib.hid hb3;have HP3:=Lib.hid hP3;have HBB3:=Lib.hid hB3;have c0:=hP3.cell0;have c1:=hP3.cell1;have f0:=hP3.frozen0;have f1:=hP3.frozen1;have d0:=hB3.cell0;have d1:=hB3.cell1;have e0:=hB3.frozen0;have e1:=hB3.frozen1;clear hb3 hg3 hP3 hB3) | (go_at_call 175;refine (z0a R l3 _ hl3 HB3.out (some l4) HT.out).mono ?_;rintro e w4 ⟨rfl,hb4,hg4⟩;clear HT;have hP4:=HP3.out.kept hg4 hneP;have hB4:=HBB3.out.kept hg4 hne;have HG4:=Lib.hid (HG3.out.trans hg4);have HB4:=Lib.hid hb4;have HP4:=Lib.hid hP4;have HBB4:=Lib.hid hB4;have c40:=hP4.cell0;have c41:=hP4.cell1;have f40:=hP4.frozen0;have f41:=hP4.frozen1;have d40:=hB4.cell0;have d41:=hB4.cell1;have e40:=hB4.frozen0;have e41:=hB4.frozen1;clear hb4 hg4 hP4 hB4) | (go_at_call 210;refine (zri R l4 _ hl4 HB4.out none HQQ.out).mono ?_;rintro e w5 ⟨rfl,hg5⟩;have hP5:=HP4.out.kept hg5 hneP;have hB5:=HBB4.out.kept hg5 hne;have HG5:=Lib.hid (HG4.out.trans hg5);have HP5:=Lib.hid hP5;have HBB5:=Lib.hid hB5;have c50:=hP5.cell0;have c51:=hP5.cell1;have f50:=hP5.frozen0;have f51:=hP5.frozen1;have d50:=hB5.cell0;have d51:=hB5.cell1;have e50:=hB5.frozen0;have e51:=hB5.frozen1;clear hg5 hP5 hB5))
     refine bodyPost_ret (zfe (((HBB5.out.kept (zef _ _ 1 (.string ⟨#[]⟩)) (by simp;omega)).set0 K).set1 ⟨#[]⟩)) rfl ?_
     exact ⟨⟨_,_,rfl⟩,grown_fresh (grown_fresh (grown_fresh HG5.out (Nat.le_of_lt hBw)) (Nat.le_refl _)) (Nat.le_refl _)⟩
    ·rw [hqq] at hq
     replace hq:some ((k,v),r)=Q:=hq
     subst hq
     obtain ⟨V,hVV⟩:∃ V:ByteArray,(⟨v.toArray⟩:ByteArray)=V:=⟨_,rfl⟩
     have HV:=Lib.hid hVV
     have HQQ:=Lib.hid hqq
     clear hn hKd hs hs2 hqq hVV
     go_enter Tryz.func176,Tryz.ntmps176
     go_wp2_with (first | (go_at_call 173;refine (zdc R l _ HB0.out l1 H1.out).mono ?_;rintro e w1 ⟨rfl,hb1,hg1⟩;have HG1:=Lib.hid hg1;have HB1:=Lib.hid hb1;clear hg1 hb1) | (go_at_call 174;refine (zhe R l1 _ hl1 HB1.out k l2 HK.out H2.out).mono ?_;rintro e w2 ⟨rfl,hb2,hg2⟩;clear HK;rw [HKK.out];have hB2:=(HP0.out.kept HG1.out hne).kept hg2 hne;have HG2:=Lib.hid (((World.grownBy_alloc w _ _).trans HG1.out).trans hg2);have HB2:=Lib.hid (Boxed.alloc hb2 (.cells #[.string K,.string ⟨#[]⟩] 114));have HBB:=Lib.hid (hB2.kept (World.grownBy_alloc w2 (.cells #[.string K,.string ⟨#[]⟩] 114) none) (by simp));have hPP:=zbm.new w2 114 K ⟨#[]⟩;have hRw:R<w2.heap.size:=Boxed.lt hb2;have hBw:w.heap.size<w2.heap.size:=zbm.lt hB2;have hneP:some w2.heap.size≠some R:=(by simp;omega);have HG2a:=Lib.hid (HG2.out.trans (World.grownBy_alloc w2 (.cells #[.string K,.string ⟨#[]⟩] 114) (some R)));have HPP:=Lib.hid hPP;have hBc0:=hB2.cell0;have hBc1:=hB2.cell1;have hBf0:=hB2.frozen0;have hBf1:=hB2.frozen1;have HBW:=Lib.hid hB2;clear hg2 hb2 hB2 hPP) | (go_at_call 123;refine (ziv K true HN.out _ hKs).mono ?_;rintro e w3 ⟨rfl,rfl⟩) | (go_at_call 175;refine (zws R l2 _ hl2 HB2.out (some l3) HS.out).mono ?_;rintro e w3 ⟨rfl,hb3,hg3⟩;clear HS;have hP3:=HPP.out.kept hg3 hneP;have hB3:=HBB.out.kept hg3 hne;have HG3:=Lib.hid (HG2a.out.trans hg3);have HB3:=Lib.hid hb3;have HP3:=Lib.hid hP3;have HBB3:=Lib.hid hB3;have c0:=hP3.cell0;have c1:=hP3.cell1;have f0:=hP3.frozen0;have f1:=hP3.frozen1;have d0:=hB3.cell0;have d1:=hB3.cell1;have e0:=hB3.frozen0;have e1:=hB3.frozen1;clear hb3 hg3 hP3 hB3) | (go_at_call 175;refine (z0a R l3 _ hl3 HB3.out (some l4) HT.out).mono ?_;rintro e w4 ⟨rfl,hb4,hg4⟩;clear HT;have hP4:=HP3.out.kept hg4 hneP;have hB4:=HBB3.out.kept hg4 hne;have HG4:=Lib.hid (HG3.out.trans hg4);have HB4:=Lib.hid hb4;have HP4:=Lib.hid hP4;have HBB4:=Lib.hid hB4;have c40:=hP4.cell0;have c41:=hP4.cell1;have f40:=hP4.frozen0;have f41:=hP4.frozen1;have d40:=hB4.cell0;have d41:=hB4.cell1;have e40:=hB4.frozen0;have e41:=hB4.frozen1;clear hb4 hg4 hP4 hB4) | (go_at_call 210;refine (zri R l4 _ hl4 HB4.out (some (v,r)) HQQ.out).mono ?_;rintro e w5 ⟨rfl,hb5,hg5⟩;rw [HV.out];have hP5:=HP4.out.kept hg5 hneP;have hB5:=HBB4.out.kept hg5 hne;have HG5:=Lib.hid (HG4.out.trans hg5);have HB5:=Lib.hid hb5;have HP5:=Lib.hid hP5;have HBB5:=Lib.hid hB5;have c50:=hP5.cell0;have c51:=hP5.cell1;have f50:=hP5.frozen0;have f51:=hP5.frozen1;have d50:=hB5.cell0;have d51:=hB5.cell1;have e50:=hB5.frozen0;have e51:=hB5.frozen1;clear hb5 hg5 hP5 hB5))
     refine bodyPost_ret (zfe (((HBB5.out.kept (zef _ _ 1 (.string V)) (by simp;omega)).set0 K).set1 V)) rfl ?_
     exact ⟨by rw [← HKK.out,← HV.out],((HB5.out.kept (zef _ w2.heap.size 1 (.string V)) (by simp;omega)).kept (zef _ w.heap.size 0 (.string K)) (by simp;omega)).kept (zef _ w.heap.size 1 (.string V)) (Ne.symm hne),grown_fresh (grown_fresh (grown_fresh HG5.out (Nat.le_of_lt hBw)) (Nat.le_refl _)) (Nat.le_refl _)⟩
end Go.Proofs.YtmpiobfdchlikaaGreatDoor
end
section
set_option synthInstance.maxSize 4000
namespace Nun
open Go Go.RowKit
theorem zbm.below {w w':World} {B t:Nat} {a b:ByteArray} (h:zbm w B t a b) (k:Below w.heap.size w w'):zbm w' B t a b:=(k.block B h.lt).trans h
theorem zbm.below' {w w':World} {B t C:Nat} {a b:ByteArray} (h:zbm w B t a b) (k:Below C w w') (hC:B<C):zbm w' B t a b:=(k.block B hC).trans h
theorem yi9 (L R:List Fld) (x:Fld):zai (L++x::R)=zai L++([.string ⟨x.1.toArray⟩,.string ⟨x.2.toArray⟩]++zai R):=by simp [zai]
theorem zmg (F:List Fld) (i:Nat) (h:i<F.length):(zai F)[i * 2]? =some (.string ⟨F[i].1.toArray⟩)∧(zai F)[i * 2+1]? =some (.string ⟨F[i].2.toArray⟩):=by
 have e:zai F=zai (F.take i)++([.string ⟨F[i].1.toArray⟩,.string ⟨F[i].2.toArray⟩]++zai (F.drop (i+1))):=by
  have e0:zai F=zai (F.take i++F[i]::F.drop (i+1)):=by rw [← List.drop_eq_getElem_cons h,List.take_append_drop]
  exact e0.trans (yi9 _ _ _)
 have hl:(zai (F.take i)).length=i * 2:=by rw [zb5,List.length_take];omega
 rw [e]
 constructor
 ·rw [List.getElem?_append_right (by omega),hl,Nat.sub_self];rfl
 ·rw [List.getElem?_append_right (by omega),hl,show i * 2+1 - i * 2=1 by omega];rfl
theorem any_take_succ (p:Fld→Bool) (F:List Fld) (i:Nat) (h:i<F.length):(F.take (i+1)).any p=((F.take i).any p || p F[i]):=by
 rw [List.take_succ_eq_append_getElem h,List.any_append];simp
theorem yja (p:Fld→Bool) (F:List Fld) (i:Nat) (h:i<F.length) (hp:p F[i]=true):F.any p=true:=List.any_eq_true.2 ⟨_,List.getElem_mem h,hp⟩
end Nun
namespace Go.Proofs.YtmpiobfdchlikaaGreatDoor
open Go Go.RowKit Nun
theorem yc1 (s t:ByteArray) (b:Bool) (h:(zab s.data.toList == zab t.data.toList)=b) (w:World) (hs:s.size≤1000000) (ht:t.size≤1000000):Calls Tryz.prog 126 #[.string s,.string t] w (Ret (.bool b) w):=h ▸ zwi s t w hs ht
theorem zrj (P:Nat) (k v a c:ByteArray) (b:Bool) (w:World) (hP:zbm w P 114 k v) (hb:(zab k.data.toList == zab a.data.toList)=b) (hk:k.size≤1000000) (ha:a.size≤1000000) :
 Calls Tryz.prog 178 #[.agg #[.string a,.string c],.pointer (some ⟨P,0,none⟩)] w (Ret (.bool b) w):=by
 have c0:=hP.cell0
 have hlt:=hP.lt
 have HBB:=Lib.hid hb;clear hb hP
 go_enter Tryz.func178,Tryz.ntmps178
 go_wp2_with (go_at_call 126;refine (yc1 k a b HBB.out _ hk ha).mono ?_;rintro e w1 ⟨rfl,hb1⟩)
 go_ret
 exact ⟨rfl,((Below.refl _ _).alloc (Nat.le_refl _) _).trans (hb1.mono (by simp))⟩
set_option maxRecDepth 100000 in
theorem zum (P B:Nat) (k v:ByteArray) (F:List Fld) (r:Value) (w:World) (hP:zbm w P 114 k v) (hr:w.ownsRow B 114 2 r F.length (zai F)) (hk:k.size≤1000000) (hF:F.length≤1000000) (hFs:∀ q∈F,q.1.length≤1000000) :
 Calls Tryz.prog 211 #[r,.func (.func 178) #[] #[.pointer (some ⟨P,0,none⟩)]] w fun e w'=>∃ n:Int,e=.returned (.int .i64 n)∧decide (0≤n)=F.any (fun q=>zab k.data.toList == zab q.1)∧Below w.heap.size w w':=by
 obtain ⟨a,cap,rfl,hform⟩:∃ a cap,r=.slice a F.length cap∧(F.length=0∨∃ g,a=some ⟨g,0,none⟩∧g<w.heap.size∧F.length≤cap):=by
  rcases zhd hr with ⟨h,h0⟩ | ⟨g,cap,h,_,h2,h3⟩
  ·exact ⟨none,0,by rw [h,h0],.inl h0⟩
  ·exact ⟨_,_,h,.inr ⟨g,rfl,h2,h3⟩⟩
 obtain ⟨n,hn⟩:∃ n,F.length=n:=⟨_,rfl⟩
 have HFO:=Lib.hid hform;have HR:=Lib.hid hr;have HPP:=Lib.hid hP;have HFS:=Lib.hid hFs;have HN:=Lib.hid hn
 rw [hn] at hF ⊢
 clear hform hr hP hFs hn
 go_enter Tryz.func211,Tryz.ntmps211
 go_wp2
 go_loopw [4,5,8] (fun x y i wr=>∃ j:Nat,i=.int .i64 j∧j≤n∧Below w.heap.size w wr∧Hid ((F.take j).any (fun q=>zab k.data.toList == zab q.1)=false)) (fun _ _ i _=>n - (intOf i).toNat)
 case atStart=>exact ⟨0,rfl,Nat.zero_le _,Below.refl _ _,Lib.hid rfl⟩
 case round =>
  obtain ⟨j,rfl,hj,hbel,hno⟩:=hrel
  by_cases hlt:j<n
  ·obtain ⟨g,rfl,hg,hcap⟩:∃ g,a=some ⟨g,0,none⟩∧g<w.heap.size∧n≤cap:=by
    rcases HFO.out with h | ⟨g,h1,h2,h3⟩
    ·have:=HN.out;omega
    ·exact ⟨g,h1,h2,by rw [HN.out] at h3;exact h3⟩
   have hjF:j<F.length:=by rw [HN.out];exact hlt
   obtain ⟨f0,f1⟩:=zmg F j hjF
   obtain ⟨q,hq⟩:∃ q,F[j]=q:=⟨_,rfl⟩
   rw [hq] at f0 f1
   have hc0:=HR.out.cellAt (j * 2) (by rw [HN.out];omega)
   have hc1:=HR.out.cellAt (j * 2+1) (by rw [HN.out];omega)
   rw [f0] at hc0;rw [f1] at hc1
   have hc0r:=(hbel.cell (p:=⟨g,j * 2,none⟩) hg).trans hc0
   have hc1r:=(hbel.cell (p:=⟨g,j * 2+1,none⟩) hg).trans hc1
   have hji:(j:Int)<(n:Int):=by omega
   have hqs:(ByteArray.mk q.1.toArray).size≤1000000:=HFS.out q (by rw [← hq];exact List.getElem_mem _)
   have hPr:=HPP.out.below hbel
   have HPr:=Lib.hid hPr
   obtain ⟨A,hA⟩:∃ A:ByteArray,(⟨q.1.toArray⟩:ByteArray)=A:=⟨_,rfl⟩
   obtain ⟨C,hC⟩:∃ C:ByteArray,(⟨q.2.toArray⟩:ByteArray)=C:=⟨_,rfl⟩
   rw [hA] at hc0r hqs;rw [hC] at hc1r
   have hAd:A.data.toList=q.1:=by rw [← hA]
   rcases hh:(zab k.data.toList == zab q.1) with _ | _
   ·have HH:=Lib.hid (show (zab k.data.toList == zab A.data.toList)=false by rw [hAd];exact hh)
    have HNO:=Lib.hid (show (F.take (j+1)).any (fun q=>zab k.data.toList == zab q.1)=false by rw [any_take_succ _ _ _ hjF,hno.out,hq,hh];rfl)
    clear f0 f1 hc0 hc1 hPr hA hC hAd hh hq
    go_wp2_with (go_at_call 178;refine (zrj P k v A C false _ HPr.out HH.out hk hqs).mono ?_;rintro e w1 ⟨rfl,hb1⟩)
    go_roundw
    case rel=>exact ⟨j+1,by go_num,by omega,hbel.trans (hb1.mono hbel.size),HNO⟩
    case measure=>simp [intOf];omega
   ·have HH:=Lib.hid (show (zab k.data.toList == zab A.data.toList)=true by rw [hAd];exact hh)
    have HY:=Lib.hid (yja (fun q=>zab k.data.toList == zab q.1) F j hjF (by rw [hq];exact hh))
    clear f0 f1 hc0 hc1 hPr hA hC hAd hh hq
    go_wp2_with (go_at_call 178;refine (zrj P k v A C true _ HPr.out HH.out hk hqs).mono ?_;rintro e w1 ⟨rfl,hb1⟩)
    go_ret
    exact ⟨_,rfl,by rw [HY.out];simp,hbel.trans (hb1.mono hbel.size)⟩
  ·obtain rfl:j=n:=by omega
   have HNO:=Lib.hid (show F.any (fun q=>zab k.data.toList == zab q.1)=false by have:=hno.out;rwa [← HN.out,List.take_length] at this)
   go_wp2
   go_ret
   exact ⟨_,rfl,by rw [HNO.out];rfl,hbel⟩
theorem zjs (P B:Nat) (k v:ByteArray) (F:List Fld) (r:Value) (b:Bool) (w:World) (hP:zbm w P 114 k v) (hr:w.ownsRow B 114 2 r F.length (zai F)) (hk:k.size≤1000000) (hF:F.length≤1000000) (hFs:∀ q∈F,q.1.length≤1000000) (hb:F.any (fun q=>zab k.data.toList == zab q.1)=b) :
 Calls Tryz.prog 177 #[r,.func (.func 178) #[] #[.pointer (some ⟨P,0,none⟩)]] w (Ret (.bool b) w):=by
 have H:=zum P B k v F r w hP hr hk hF hFs
 rw [hb] at H
 have HH:=Lib.hid H;clear H hP hr hFs hb
 go_enter Tryz.func177,Tryz.ntmps177
 go_wp2_with (go_at_call 211;refine HH.out.mono ?_;rintro e w1 ⟨n,rfl,hn,hb1⟩)
 go_ret
 exact ⟨r1 (vb (by first | rfl | exact hn)),hb1⟩
end Go.Proofs.YtmpiobfdchlikaaGreatDoor
end
section
set_option synthInstance.maxSize 4000
namespace Nun
open Go Go.RowKit
theorem ziw {w w':World} {B e size n R:Nat} {v:Value} {xs:List Value} (h:w.ownsRow B e size v n xs) (k:w.grownBy w' (some R)) (hR:R<B):w'.ownsRow B e size v n xs :=
 World.ownsRow.kept h k (.inr (fun e=>by have:=(h.lt R e).1;omega))
theorem zs6 (n:Nat) (l:List UInt8) (F:List Fld) (tw:Bool) (h:l.dropWhile zal=[]):zjw (n+1) l F tw=some (F,tw):=by rw [zjw,if_pos h]
theorem zos (n:Nat) (l:List UInt8) (F:List Fld) (tw:Bool) (h:¬ l.dropWhile zal=[]) (hs:zes 59 (l.dropWhile zal)=none):zjw (n+1) l F tw=none:=by rw [zjw,if_neg h,hs]
theorem znb (n:Nat) (l t:List UInt8) (F:List Fld) (tw:Bool) (h:¬ l.dropWhile zal=[]) (hs:zes 59 (l.dropWhile zal)=some t) (hp:zjr t=none):zjw (n+1) l F tw=none:=by rw [zjw,if_neg h,hs];dsimp only;rw [hp]
theorem zn3 (n:Nat) (l t r:List UInt8) (p:Fld) (F:List Fld) (tw b:Bool) (h:¬ l.dropWhile zal=[]) (hs:zes 59 (l.dropWhile zal)=some t) (hp:zjr t=some (p,r)) (hb:(F.any fun q=>zab p.1 == zab q.1)=b):zjw (n+1) l F tw=zjw n r (F++[p]) (tw || b):=by rw [zjw,if_neg h,hs];dsimp only;rw [hp];dsimp only;rw [hb]
theorem z7g {w:World} {b b':Nat} {e:TypeId} {size:Nat} {v:Value} {n:Nat} {xs:List Value} (h:w.ownsRow b e size v n xs) (hb:b'≤b):w.ownsRow b' e size v n xs:=⟨h.1,h.2.imp id fun ⟨g,cap,cur,h1,h2,h3⟩=>⟨g,cap,cur,h1,Nat.le_trans hb h2,h3⟩⟩
def ypm:Option Value→Nat
 | some (.string b)=>b.size
 | _=>0
theorem zgi (l:List UInt8) (S:ByteArray) (h:(⟨l.toArray⟩:ByteArray)=S) (b:Bool) (hb:l.isEmpty=b):S.toList.isEmpty=b:=by
 rw [Lib.toList_data,← h];exact hb
end Nun
namespace Go.Proofs.YtmpiobfdchlikaaGreatDoor
open Go Go.RowKit Nun
def z7h:PRes→World→Ending→World→Prop
 | .form,w,e,w'=>e=.returned (.tuple #[.string ⟨#[]⟩,.slice none 0 0,.int .i64 7])∧Below w.heap.size w w'
 | .twice,w,e,w'=>e=.returned (.tuple #[.string ⟨#[]⟩,.slice none 0 0,.int .i64 9])∧Below w.heap.size w w'
 | .ok m l,w,e,w'=>∃ v,e=.returned (.tuple #[.string ⟨m.toArray⟩,v,.int .i64 0])∧w'.ownsRow w.heap.size 114 2 v l.length (zai l)∧Below w.heap.size w w'
theorem zpl:(Tryz.prog.info? 114).map (fun i=>(i.zero,i.size,i.bytes))=some (some (.agg #[.string ⟨#[]⟩,.string ⟨#[]⟩]),2,32):=by kernel_rfl
set_option maxRecDepth 100000 in
theorem zn4 (s:ByteArray) (w:World) (hs:s.size≤10000) (V:PRes) (hV:zbr s.data.toList=V):Calls Tryz.prog 125 #[.string s] w (z7h V w):=by
 obtain ⟨l,hl⟩:∃ l,s.data.toList=l:=⟨_,rfl⟩
 have hll:l.length=s.size:=by subst hl;rfl
 have hsl:(⟨l.toArray⟩:ByteArray)=s:=by subst hl;exact zrf s
 obtain ⟨l1,h1⟩:∃ l1,l.dropWhile zal=l1:=⟨_,rfl⟩
 obtain ⟨m,hm⟩:∃ m,l1.takeWhile zbb=m:=⟨_,rfl⟩
 obtain ⟨l2,h2⟩:∃ l2,l1.dropWhile zbb=l2:=⟨_,rfl⟩
 obtain ⟨l3,h3⟩:∃ l3,l2.dropWhile zal=l3:=⟨_,rfl⟩
 unfold zbr at hV
 rw [hl,h1,hm,h2,hll] at hV
 have hl1:l1.length≤s.size:=by have:=zbc zal l;rw [h1] at this;omega
 have hl2:l2.length≤s.size:=by have:=zbc zbb l1;rw [h2] at this;omega
 have hl1m:l1.length≤1000000:=by omega
 have hb0:Boxed (w.alloc (.cells #[.string s] 199)) w.heap.size 199 (.string ⟨l.toArray⟩):=by rw [hsl];exact Boxed.new _ _ _
 obtain ⟨M,hM⟩:∃ M:ByteArray,(⟨m.toArray⟩:ByteArray)=M:=⟨_,rfl⟩
 have HB0:=Lib.hid hb0;have H1:=Lib.hid h1;have HMM:=Lib.hid hm;have H2:=Lib.hid h2;have H3:=Lib.hid h3;have HV:=Lib.hid hV;have HM:=Lib.hid hM
 clear hb0 h1 hm h2 h3 hV hl hsl hll hM
 go_enter Tryz.func125,Tryz.ntmps125
 go_wp2_with (first | (go_at_call 173;refine (zdc w.heap.size l _ HB0.out l1 H1.out).mono ?_;rintro e w1 ⟨rfl,hb1,hg1⟩;clear H1;have HG1:=Lib.hid hg1;have HB1:=Lib.hid hb1;clear hg1 hb1) | (go_at_call 174;refine (zhe w.heap.size l1 _ hl1m HB1.out m l2 HMM.out H2.out).mono ?_;rintro e w2 ⟨rfl,hb2,hg2⟩;rw [HM.out];have HG2:=Lib.hid (HG1.out.trans hg2);have HB2:=Lib.hid hb2;clear hg2 hb2) | (go_at_call 173;refine (zdc w.heap.size l2 _ HB2.out l3 H3.out).mono ?_;rintro e w3 ⟨rfl,hb3,hg3⟩;have HG3:=Lib.hid (HG2.out.trans hg3);have HB3:=Lib.hid hb3;clear hg3 hb3))
 have hbel3:Below w.heap.size w w3:=((Below.refl _ _).alloc (Nat.le_refl _) _).trans (zdb HG3.out (Nat.le_refl _) (by simp))
 have hRlt:w.heap.size+1≤w3.heap.size:=Boxed.lt HB3.out
 go_loopw [7,8,9,10] (fun v e _ _ wr=>∃ (n:Nat) (q r:List UInt8) (F:List Fld) (tw:Bool),e=.int .i64 (if tw=true then 9 else 0)∧r.length<n∧r.length+F.length≤s.size∧Hid (r.dropWhile zal=q)∧Hid (∀ p∈F,p.1.length≤1000000) ∧
  Hid (V=match zjw n r F tw with | none=>PRes.form | some (out,tw)=>if m=[] then .form else if tw then .twice else .ok m out) ∧
  Hid (wr.ownsRow (w.heap.size+1) 114 2 v F.length (zai F))∧Hid (Boxed wr w.heap.size 199 (.string ⟨q.toArray⟩))∧Hid (Below w.heap.size w wr))
  (fun _ _ _ _ wr=>ypm (wr.cell? ⟨w.heap.size,0,none⟩))
 case atStart=>exact ⟨s.size+1,l3,l2,[],false,rfl,by omega,by simpa using hl2,H3,Lib.hid (by simp),Lib.hid HV.out.symm,Lib.hid (World.ownsRow_nil _ _ _ _),HB3,Lib.hid hbel3⟩
 case round =>
  obtain ⟨n,q,r,F,tw,rfl,hrn,hrF,hq,hFs,hVV,hown,hbox,hbel⟩:=hrel
  have hqr:q.length≤r.length:=by have:=zbc zal r;rw [hq.out] at this;exact this
  have hqm:q.length≤1000000:=by omega
  obtain ⟨S,hS⟩:∃ S:ByteArray,(⟨q.toArray⟩:ByteArray)=S:=⟨_,rfl⟩
  have hcr:=hbox.out.cell;have hfr:=hbox.out.frozen
  rw [hS] at hcr
  obtain ⟨n,rfl⟩:∃ n',n=n'+1:=⟨n - 1,by omega⟩
  by_cases hq0:q=[]
  ·have hem:=zgi q S hS true (by rw [hq0];rfl)
   have hv:=hVV.out
   rw [zs6 n r F tw (by rw [hq.out,hq0])] at hv
   dsimp only at hv
   clear hq0 hS
   by_cases hm0:m=[]
   ·have hem2:=zgi m M HM.out true (by rw [hm0];rfl)
    rw [if_pos hm0] at hv
    subst hv
    clear hm0
    rcases tw with _ | _
    all_goals
     go_wp2
     go_ret3
     exact ⟨rfl,hbel.out⟩
   ·have hem2:=zgi m M HM.out false (by cases m<;>first | rfl | exact absurd rfl hm0)
    rw [if_neg hm0] at hv
    clear hm0
    rcases tw with _ | _
    ·replace hv:V=.ok m F:=hv
     subst hv
     go_wp2
     go_ret3
     exact ⟨_,by rw [← HM.out];rfl,z7g hown.out (Nat.le_succ _),hbel.out⟩
    ·replace hv:V=.twice:=hv
     subst hv
     go_wp2
     go_ret3
     exact ⟨rfl,hbel.out⟩
  ·have hem:=zgi q S hS false (by cases q<;>first | rfl | exact absurd rfl hq0)
   rcases hs1:zes 59 q with _ | t
   ·have hv:=hVV.out
    rw [zos n r F tw (by rw [hq.out];exact hq0) (by rw [hq.out];exact hs1)] at hv
    replace hv:V=.form:=hv
    subst hv
    have HS:=Lib.hid hs1
    clear hs1 hq0 hS
    rcases tw with _ | _
    all_goals
     go_wp2_with (go_at_call 175;refine (z0b w.heap.size q _ hqm hbox.out none HS.out).mono ?_;rintro e w4 ⟨rfl,hb4,hg4⟩;clear HS;have HG4:=Lib.hid hg4;have HB4:=Lib.hid hb4;clear hb4 hg4)
     go_ret3
     exact ⟨rfl,hbel.out.trans (zdb HG4.out (Nat.le_refl _) hbel.out.size)⟩
   ·have htl:t.length+1=q.length:=by have:=congrArg List.length (zkg hs1);rw [List.length_cons] at this;exact this.symm
    have htm:t.length≤1000000:=by omega
    rcases hp1:zjr t with _ | ⟨p,r2⟩
    ·have hv:=hVV.out
     rw [znb n r t F tw (by rw [hq.out];exact hq0) (by rw [hq.out];exact hs1) hp1] at hv
     replace hv:V=.form:=hv
     subst hv
     have HS:=Lib.hid hs1;have HP:=Lib.hid hp1
     clear hs1 hq0 hS hp1
     rcases tw with _ | _
     all_goals
      go_wp2_with (first | (go_at_call 175;refine (z0b w.heap.size q _ hqm hbox.out (some t) HS.out).mono ?_;rintro e w4 ⟨rfl,hb4,hg4⟩;clear HS;have HG4:=Lib.hid hg4;have HB4:=Lib.hid hb4;clear hb4 hg4) | (go_at_call 176;refine (zn2 w.heap.size t _ htm HB4.out none HP.out).mono ?_;rintro e w5 ⟨⟨a,b,rfl⟩,hg5⟩))
      go_ret3
      exact ⟨rfl,((hbel.out.trans (zdb HG4.out (Nat.le_refl _) hbel.out.size)).trans (zdb hg5 (Nat.le_refl _) (Nat.le_trans hbel.out.size HG4.out.size))).alloc (Nat.le_trans (Nat.le_trans hbel.out.size HG4.out.size) hg5.size) _⟩
    ·obtain ⟨hrl,hpl,hpv⟩:=zk6 hp1
     dsimp only at hrl hpl hpv
     obtain ⟨K,hK⟩:∃ K:ByteArray,(⟨p.1.toArray⟩:ByteArray)=K:=⟨_,rfl⟩
     obtain ⟨X,hX⟩:∃ X:ByteArray,(⟨p.2.toArray⟩:ByteArray)=X:=⟨_,rfl⟩
     obtain ⟨q2,hq2⟩:∃ q2,r2.dropWhile zal=q2:=⟨_,rfl⟩
     have hq2l:q2.length≤r2.length:=by have:=zbc zal r2;rw [hq2] at this;exact this
     have hKs:K.size≤1000000:=by rw [← hK];show p.1.length≤_;omega
     have hFl:F.length≤1000000:=by omega
     have hFs2:∀ x∈F++[p],x.1.length≤1000000:=by
      intro x hx
      rcases List.mem_append.1 hx with h | h
      ·exact hFs.out x h
      ·rw [List.mem_singleton.1 h];omega
     have hsnoc:zai (F++[p])=zai F++[.string K,.string X]:=by rw [zcp,hK,hX]
     have hKd:K.data.toList=p.1:=by rw [← hK]
     have hlp:(F++[p]).length=F.length+1:=by rw [List.length_append];rfl
     have hmes:q2.length<q.length:=by omega
     rcases hcb:F.any (fun x=>zab p.1 == zab x.1) with _ | _
     all_goals
      have hv:=hVV.out
      rw [zn3 n r t r2 p F tw _ (by rw [hq.out];exact hq0) (by rw [hq.out];exact hs1) hp1 hcb] at hv
      have HVN:=Lib.hid hv
      have HS:=Lib.hid hs1;have HP:=Lib.hid hp1;have HKX:=Lib.hid (And.intro hK hX);have HQ2:=Lib.hid hq2;have HFS2:=Lib.hid hFs2;have HSN:=Lib.hid hsnoc;have HLP:=Lib.hid hlp
      have HCB:=Lib.hid hcb
      rw [← hKd] at HCB
      have HSS:=Lib.hid hS
     ·clear hs1 hq0 hS hp1 hcb hv hK hX hq2 hFs2 hsnoc hKd hlp
      rcases tw with _ | _
      all_goals
       go_wp2_with (first | (go_at_call 175;refine (z0b w.heap.size q _ hqm hbox.out (some t) HS.out).mono ?_;rintro e w4 ⟨rfl,hb4,hg4⟩;clear HS;have HG4:=Lib.hid hg4;have HB4:=Lib.hid hb4;clear hb4 hg4) | (go_at_call 176;refine (zn2 w.heap.size t _ htm HB4.out (some (p,r2)) HP.out).mono ?_;rintro e w5 ⟨rfl,hb5,hg5⟩;rw [HKX.out.1,HKX.out.2];have hbe5:=(hbel.out.trans (zdb HG4.out (Nat.le_refl _) hbel.out.size)).trans (zdb hg5 (Nat.le_refl _) (Nat.le_trans hbel.out.size HG4.out.size));have HO5:=Lib.hid (World.ownsRow.alloc (ziw (ziw hown.out HG4.out (Nat.lt_succ_self _)) hg5 (Nat.lt_succ_self _)) (.cells #[.string K,.string X] 114));have HB5:=Lib.hid (Boxed.alloc hb5 (.cells #[.string K,.string X] 114));have HPN:=Lib.hid (zbm.new w5 114 K X);have hR5:w.heap.size+1≤w5.heap.size:=Boxed.lt hb5;have HBE5:=Lib.hid (hbe5.alloc hbe5.size (.cells #[.string K,.string X] 114));clear hb5 hg5 hbe5) | (go_at_call 177;refine (zjs w5.heap.size (w.heap.size+1) K X F _ false _ HPN.out HO5.out hKs hFl hFs.out HCB.out).mono ?_;rintro e w7 ⟨rfl,hb7⟩;have hP7:=HPN.out.below hb7;have c70:=hP7.cell0;have c71:=hP7.cell1;have HO7:=Lib.hid (own_below HO5.out hb7);have HB7:=Lib.hid ((hb7.block _ HB5.out.lt).trans HB5.out);have HBE7:=Lib.hid (HBE5.out.trans (hb7.mono HBE5.out.size));have hR7:w.heap.size+1≤w7.heap.size:=(by have:=hb7.size;simp at this;omega);clear hb7 hP7) | (at_builtin;refine zx7 (by rfl) _ _ _ (by rfl) 114 _ 2 32 Tryz.underlying110 zpl (by rfl) (by omega) (w.heap.size+1) w7 _ _ _ (by rfl) HO7.out [.string K,.string X] (by rfl) (by simp [Value.oneCell']) (by rfl) (by omega) (by omega) hR7 ?_;intro gg cap w8 hgg hown8 hgr8 hb8 hsz8;have HO8:=Lib.hid hown8;have HB8:=Lib.hid ((hb8.block _ (Nat.lt_succ_self _)).trans HB7.out);have HBE8:=Lib.hid (HBE7.out.trans (hb8.mono (Nat.le_succ _)));clear hown8 hgr8) | (go_at_call 173;refine (zdc w.heap.size r2 _ HB8.out q2 HQ2.out).mono ?_;rintro e w9 ⟨rfl,hb9,hg9⟩))
       go_roundw
       case rel=>exact ⟨n,q2,r2,F++[p],_,rfl,by omega,by rw [HLP.out];omega,HQ2,HFS2,HVN,Lib.hid (by rw [HSN.out,HLP.out];exact ziw HO8.out hg9 (Nat.lt_succ_self _)),Lib.hid hb9,Lib.hid (HBE8.out.trans (zdb hg9 (Nat.le_refl _) HBE8.out.size))⟩
       case measure=>rw [hcr,hb9.cell,← HSS.out];exact hmes
     ·clear hs1 hq0 hS hp1 hcb hv hK hX hq2 hFs2 hsnoc hKd hlp
      rcases tw with _ | _
      all_goals
       go_wp2_with (first | (go_at_call 175;refine (z0b w.heap.size q _ hqm hbox.out (some t) HS.out).mono ?_;rintro e w4 ⟨rfl,hb4,hg4⟩;clear HS;have HG4:=Lib.hid hg4;have HB4:=Lib.hid hb4;clear hb4 hg4) | (go_at_call 176;refine (zn2 w.heap.size t _ htm HB4.out (some (p,r2)) HP.out).mono ?_;rintro e w5 ⟨rfl,hb5,hg5⟩;rw [HKX.out.1,HKX.out.2];have hbe5:=(hbel.out.trans (zdb HG4.out (Nat.le_refl _) hbel.out.size)).trans (zdb hg5 (Nat.le_refl _) (Nat.le_trans hbel.out.size HG4.out.size));have HO5:=Lib.hid (World.ownsRow.alloc (ziw (ziw hown.out HG4.out (Nat.lt_succ_self _)) hg5 (Nat.lt_succ_self _)) (.cells #[.string K,.string X] 114));have HB5:=Lib.hid (Boxed.alloc hb5 (.cells #[.string K,.string X] 114));have HPN:=Lib.hid (zbm.new w5 114 K X);have hR5:w.heap.size+1≤w5.heap.size:=Boxed.lt hb5;have HBE5:=Lib.hid (hbe5.alloc hbe5.size (.cells #[.string K,.string X] 114));clear hb5 hg5 hbe5) | (go_at_call 177;refine (zjs w5.heap.size (w.heap.size+1) K X F _ true _ HPN.out HO5.out hKs hFl hFs.out HCB.out).mono ?_;rintro e w7 ⟨rfl,hb7⟩;have hP7:=HPN.out.below hb7;have c70:=hP7.cell0;have c71:=hP7.cell1;have HO7:=Lib.hid (own_below HO5.out hb7);have HB7:=Lib.hid ((hb7.block _ HB5.out.lt).trans HB5.out);have HBE7:=Lib.hid (HBE5.out.trans (hb7.mono HBE5.out.size));have hR7:w.heap.size+1≤w7.heap.size:=(by have:=hb7.size;simp at this;omega);clear hb7 hP7) | (at_builtin;refine zx7 (by rfl) _ _ _ (by rfl) 114 _ 2 32 Tryz.underlying110 zpl (by rfl) (by omega) (w.heap.size+1) w7 _ _ _ (by rfl) HO7.out [.string K,.string X] (by rfl) (by simp [Value.oneCell']) (by rfl) (by omega) (by omega) hR7 ?_;intro gg cap w8 hgg hown8 hgr8 hb8 hsz8;have HO8:=Lib.hid hown8;have HB8:=Lib.hid ((hb8.block _ (Nat.lt_succ_self _)).trans HB7.out);have HBE8:=Lib.hid (HBE7.out.trans (hb8.mono (Nat.le_succ _)));clear hown8 hgr8) | (go_at_call 173;refine (zdc w.heap.size r2 _ HB8.out q2 HQ2.out).mono ?_;rintro e w9 ⟨rfl,hb9,hg9⟩))
       go_roundw
       case rel=>exact ⟨n,q2,r2,F++[p],_,rfl,by omega,by rw [HLP.out];omega,HQ2,HFS2,HVN,Lib.hid (by rw [HSN.out,HLP.out];exact ziw HO8.out hg9 (Nat.lt_succ_self _)),Lib.hid hb9,Lib.hid (HBE8.out.trans (zdb hg9 (Nat.le_refl _) HBE8.out.size))⟩
       case measure=>rw [hcr,hb9.cell,← HSS.out];exact hmes
end Go.Proofs.YtmpiobfdchlikaaGreatDoor
end
section
namespace Go.Proofs.YtmpiobfdchlikaaGreatDoor
open Go.RowKit Nun
theorem zhf {s:Str}:(S s).data.toList=s:=by simp [S]
theorem ypn (c:UInt8):((c.toNat:Nat):Int).toNat.toUInt8=c:=by
 rw [Int.toNat_natCast];simp
theorem zld {w:World}:Below w.heap.size w w:=Below.refl _ _
def one (v:Value):TupRes:=⟨[v],none,[]⟩
def flt (l:List Value):TupRes:=⟨l,none,[]⟩
variable {Γ:Glob}
theorem zf8 {f:FuncId} {spec:List Value→Option TupRes} (hk:zgq Tryz.prog f=true) (h:∀ vs R,spec vs=some R→∃ l,R=flt l∧(∀ v∈l,zcm v=true)∧∀ w,Γ.G w→Calls Tryz.prog f vs.toArray w fun e w'=>e=.returned (tupV l)∧Below w.heap.size w w'):zjj Tryz.prog Γ f spec:=⟨hk,fun vs R hs=>by
 obtain ⟨l,rfl,h1,h2⟩:=h vs R hs
 refine ⟨⟨fun v hv=>h1 v (by simpa [flt] using hv),fun c n z ty e=>by cases e⟩,fun w hw=>(h2 w hw).mono ?_⟩
 rintro e w' ⟨rfl,hb⟩
 exact ⟨.int .i64 0,by simp [flt,TupRes.vs],(fun c n z ty e=>by cases e),hb⟩⟩
def tIdx:List Value→Option TupRes
 | [.string s,.int .u8 c]=>some (flt [.int .i64 (Lib.indexByte s.data.toList c.toNat.toUInt8)])
 | _=>none
theorem yjb:zjj Tryz.prog Γ 32 tIdx:=zf8 (by kernel_rfl) fun vs R h=>by
 unfold tIdx at h
 split at h
 ·cases h
  exact ⟨_,rfl,by simp [zcm],fun w _=>(Tryz.strings_IndexByte _ _ w).mono (by rintro e w' ⟨rfl,rfl⟩;exact ⟨rfl,zld⟩)⟩
 ·cases h
def tPre:List Value→Option TupRes
 | [.string s,.string p]=>some (flt [.bool (Lib.hasPrefix s.data.toList p.data.toList)])
 | _=>none
theorem yjc:zjj Tryz.prog Γ 74 tPre:=zf8 (by kernel_rfl) fun vs R h=>by
 unfold tPre at h
 split at h
 ·cases h
  exact ⟨_,rfl,by simp [zcm],fun w _=>(Tryz.strings_HasPrefix _ _ w).mono (by rintro e w' ⟨rfl,rfl⟩;exact ⟨rfl,zld⟩)⟩
 ·cases h
def z7i:List Value→Option TupRes
 | [.string s]=>if s.size≤1000000 then some (flt [.string (S (zab s.data.toList))]) else none
 | _=>none
theorem yc2:zjj Tryz.prog Γ 73 z7i:=zf8 (by kernel_rfl) fun vs R h=>by
 unfold z7i at h
 split at h
 ·split at h
  ·rename_i hs
   cases h
   exact ⟨_,rfl,by simp [zcm],fun w _=>(zs1 _ w hs).mono (by rintro e w' ⟨rfl,hb⟩;exact ⟨rfl,hb⟩)⟩
  ·cases h
 ·cases h
def zwt:List Value→Option TupRes
 | [.string s,.string t]=>if s.size≤1000000∧t.size≤1000000 then some (flt [.bool (zab s.data.toList == zab t.data.toList)]) else none
 | _=>none
theorem z7j:zjj Tryz.prog Γ 126 zwt:=zf8 (by kernel_rfl) fun vs R h=>by
 unfold zwt at h
 split at h
 ·split at h
  ·rename_i hs
   cases h
   exact ⟨_,rfl,by simp [zcm],fun w _=>(zwi _ _ w hs.1 hs.2).mono (by rintro e w' ⟨rfl,hb⟩;exact ⟨rfl,hb⟩)⟩
  ·cases h
 ·cases h
def yc3:List Value→Option TupRes
 | [.string s,.string p]=>some (flt [.string ⟨(Lib.trimPrefix s.data.toList p.data.toList).toArray⟩,.bool (Lib.hasPrefix s.data.toList p.data.toList)])
 | _=>none
theorem yc4:zjj Tryz.prog Γ 132 yc3:=zf8 (by kernel_rfl) fun vs R h=>by
 unfold yc3 at h
 split at h
 ·cases h
  exact ⟨_,rfl,by simp [zcm],fun w _=>(Tryz.strings_CutPrefix _ _ w).mono (by rintro e w' ⟨rfl,rfl⟩;exact ⟨rfl,zld⟩)⟩
 ·cases h
def tDq:List Value→Option TupRes
 | [.string s]=>if s.size≤1000000 then some (match decL s.data.toList with
   | some t=>flt [.string (S t),.int .i64 0]
   | none=>flt [.string (S []),.int .i64 7]) else none
 | _=>none
theorem ypo:zjj Tryz.prog Γ 129 tDq:=zf8 (by kernel_rfl) fun vs R h=>by
 unfold tDq at h
 split at h
 ·rename_i s
  split at h
  ·rename_i hs
   have hc:=fun w=>z6r s w (by omega)
   cases hd:decL s.data.toList with
   | some t =>
     rw [hd] at h hc
     cases h
     exact ⟨_,rfl,by simp [zcm],fun w _=>(hc w).mono (by rintro e w' ⟨rfl,hb⟩;exact ⟨rfl,hb⟩)⟩
   | none =>
     rw [hd] at h hc
     cases h
     exact ⟨_,rfl,by simp [zcm],fun w _=>(hc w).mono (by rintro e w' ⟨rfl,hb⟩;exact ⟨rfl,hb⟩)⟩
  ·cases h
 ·cases h
def tUm:List Value→Option TupRes
 | [.string s]=>if s.size≤1000000 then some (match zco (bare s.data.toList) with
   | some t=>flt [.string (S t),.int .i64 0]
   | none=>flt [.string (S []),.int .i64 7]) else none
 | _=>none
theorem ypp:zjj Tryz.prog Γ 130 tUm:=zf8 (by kernel_rfl) fun vs R h=>by
 unfold tUm at h
 split at h
 ·rename_i s
  split at h
  ·rename_i hs
   have hc:=fun w=>ycm s w hs
   cases hd:zco (bare s.data.toList) with
   | some t =>
     rw [hd] at h hc
     cases h
     exact ⟨_,rfl,by simp [zcm],fun w _=>(hc w).mono (by rintro e w' ⟨rfl,hb⟩;exact ⟨rfl,hb⟩)⟩
   | none =>
     rw [hd] at h hc
     cases h
     exact ⟨_,rfl,by simp [zcm],fun w _=>(hc w).mono (by rintro e w' ⟨rfl,hb⟩;exact ⟨rfl,hb⟩)⟩
  ·cases h
 ·cases h
def tCut:List Value→Option TupRes
 | [.string s,.string p]=>if s.size≤1000000000 then some (flt [.string ⟨(Lib.cut s.data.toList p.data.toList).1.toArray⟩,.string ⟨(Lib.cut s.data.toList p.data.toList).2.1.toArray⟩,.bool (Lib.cut s.data.toList p.data.toList).2.2]) else none
 | _=>none
theorem yjd (hG:∀ w,Γ.G w→zfu w):zjj Tryz.prog Γ 79 tCut:=zf8 (by kernel_rfl) fun vs R h=>by
 unfold tCut at h
 split at h
 ·split at h
  ·rename_i hs
   cases h
   refine ⟨_,rfl,by simp [zcm],fun w hw=>?_⟩
   obtain ⟨m,hm⟩:=hG w hw
   exact (Tryz.strings_Cut _ _ m w (by omega) hm).mono (by rintro e w' ⟨rfl,n,rfl⟩;exact ⟨rfl,below_drewN' w n⟩)
  ·cases h
 ·cases h
def tInd:List Value→Option TupRes
 | [.string s,.string p]=>if s.size≤1000000000 then some (flt [.int .i64 (Lib.index s.data.toList p.data.toList)]) else none
 | _=>none
theorem yje (hG:∀ w,Γ.G w→zfu w):zjj Tryz.prog Γ 59 tInd:=zf8 (by kernel_rfl) fun vs R h=>by
 unfold tInd at h
 split at h
 ·split at h
  ·rename_i hs
   cases h
   refine ⟨_,rfl,by simp [zcm],fun w hw=>?_⟩
   obtain ⟨m,hm⟩:=hG w hw
   exact (Tryz.strings_Index _ _ m w (by omega) hm).mono (by rintro e w' ⟨rfl,rfl⟩;exact ⟨rfl,zld⟩)
  ·cases h
 ·cases h
def tRep:List Value→Option TupRes
 | [.string s,.string o,.string n]=>if s.size≤1000000∧1≤o.size∧n.size≤10 then some (flt [.string ⟨(Lib.replaceAll s.data.toList o.data.toList n.data.toList).toArray⟩]) else none
 | _=>none
theorem yjf (hG:∀ w,Γ.G w→zfu w):zjj Tryz.prog Γ 82 tRep:=zf8 (by kernel_rfl) fun vs R h=>by
 unfold tRep at h
 split at h
 ·rename_i s o n
  split at h
  ·rename_i hs
   cases h
   refine ⟨_,rfl,by simp [zcm],fun w hw=>?_⟩
   obtain ⟨m,hm⟩:=hG w hw
   have hcb:=Lib.countB_le o hs.2.1 s.size s (Nat.le_refl _)
   have hmul:Lib.countB s o * n.size≤1000000 * 10:=Nat.mul_le_mul (by omega) hs.2.2
   exact (Tryz.strings_ReplaceAll s o n m w (by omega) hm hs.2.1 (by omega)).mono (by rintro e w' ⟨rfl,hb⟩;exact ⟨rfl,hb⟩)
  ·cases h
 ·cases h
theorem zjn:∀ l:List Fld,∀ v∈zai l,zcm v=true∧v.oneCell'=true:=by
 intro l
 induction l with
 | nil=>intro v h;simp [zai] at h
 | cons a l ih =>
   intro v h
   simp only [zai,List.flatMap_cons,List.mem_append,List.mem_cons,List.not_mem_nil,or_false] at h
   rcases h with (rfl | rfl) | h
   ·exact ⟨rfl,rfl⟩
   ·exact ⟨rfl,rfl⟩
   ·exact ih v h
theorem zgj:∀ l:List Fld,(zai l).map PV.flat=zac l
 | []=>rfl
 | (a,b)::l=>by
   have h:=zgj l
   simp only [zai,List.flatMap_cons,List.map_append,List.map_cons,List.map_nil,List.cons_append,List.nil_append,zac] at h ⊢
   rw [h];rfl
def tSpl:List Value→Option TupRes
 | [.string s]=>if s.size≤10000 then some (match zba s.data.toList with
   | .form=>⟨[],some ([],0,2,80),[.int .i64 0,.int .i64 7]⟩
   | .long=>⟨[],some ([],0,2,80),[.int .i64 0,.int .i64 6]⟩
   | .ok l b=>⟨[],some (zai l,l.length,2,80),[.int .i64 b,.int .i64 0]⟩) else none
 | _=>none
theorem yjg (hG:∀ w,Γ.G w→zfu w):zjj Tryz.prog Γ 69 tSpl:=⟨by kernel_rfl,fun vs R h=>by
 unfold tSpl at h
 split at h
 ·rename_i s
  split at h
  ·rename_i hs
   have hc:=fun w hm=>z7f s w hm hs
   cases hV:zba s.data.toList with
   | form =>
     rw [hV] at h hc
     cases h
     exact ⟨⟨by simp [zcm],fun c n z ty e=>by cases e;simp⟩,fun w hw=>(hc w (hG w hw)).mono (by rintro e w' ⟨rfl,hb⟩;exact ⟨.slice none 0 0,rfl,(fun c n z ty e=>by cases e;exact World.ownsRow_nil _ _ _ _),hb⟩)⟩
   | long =>
     rw [hV] at h hc
     cases h
     exact ⟨⟨by simp [zcm],fun c n z ty e=>by cases e;simp⟩,fun w hw=>(hc w (hG w hw)).mono (by rintro e w' ⟨rfl,hb⟩;exact ⟨.slice none 0 0,rfl,(fun c n z ty e=>by cases e;exact World.ownsRow_nil _ _ _ _),hb⟩)⟩
   | ok l b =>
     rw [hV] at h hc
     cases h
     exact ⟨⟨by simp [zcm],fun c n z ty e=>by cases e;exact zjn l⟩,fun w hw=>(hc w (hG w hw)).mono (by rintro e w' ⟨v,rfl,ho,hb⟩;exact ⟨v,rfl,(fun c n z ty e=>by cases e;exact ho),hb⟩)⟩
  ·cases h
 ·cases h⟩
def tPar:List Value→Option TupRes
 | [.string s]=>if s.size≤10000 then some (match zbr s.data.toList with
   | .form=>⟨[.string (S [])],some ([],0,2,114),[.int .i64 7]⟩
   | .twice=>⟨[.string (S [])],some ([],0,2,114),[.int .i64 9]⟩
   | .ok m l=>⟨[.string (S m)],some (zai l,l.length,2,114),[.int .i64 0]⟩) else none
 | _=>none
theorem yjh:zjj Tryz.prog Γ 125 tPar:=⟨by kernel_rfl,fun vs R h=>by
 unfold tPar at h
 split at h
 ·rename_i s
  split at h
  ·rename_i hs
   cases hV:zbr s.data.toList with
   | form =>
     have hc:=fun w=>zn4 s w hs _ hV
     rw [hV] at h
     cases h
     exact ⟨⟨by simp [zcm],fun c n z ty e=>by cases e;simp⟩,fun w hw=>(hc w).mono (by rintro e w' ⟨rfl,hb⟩;exact ⟨.slice none 0 0,rfl,(fun c n z ty e=>by cases e;exact World.ownsRow_nil _ _ _ _),hb⟩)⟩
   | twice =>
     have hc:=fun w=>zn4 s w hs _ hV
     rw [hV] at h
     cases h
     exact ⟨⟨by simp [zcm],fun c n z ty e=>by cases e;simp⟩,fun w hw=>(hc w).mono (by rintro e w' ⟨rfl,hb⟩;exact ⟨.slice none 0 0,rfl,(fun c n z ty e=>by cases e;exact World.ownsRow_nil _ _ _ _),hb⟩)⟩
   | ok m l =>
     have hc:=fun w=>zn4 s w hs _ hV
     rw [hV] at h
     cases h
     exact ⟨⟨by simp [zcm],fun c n z ty e=>by cases e;exact zjn l⟩,fun w hw=>(hc w).mono (by rintro e w' ⟨v,rfl,ho,hb⟩;exact ⟨v,rfl,(fun c n z ty e=>by cases e;exact ho),hb⟩)⟩
  ·cases h
 ·cases h⟩
def ix2 (o:Option Nat):Int:=match o with
 | some i=>(i:Int)
 | none=>-1
theorem yem (c:UInt8):∀ s:Str,Lib.indexByte s c=ix2 (at1 c s)
 | []=>rfl
 | x::l=>by
   have h:=yem c l
   unfold Lib.indexByte at1
   by_cases hx:x=c
   ·subst hx
    all_goals (simp [ix2])
   ·have h1:(x == c)=false:=by simpa using hx
    rw [h1,h,if_neg hx]
    cases at1 c l with
    | none=>rfl
    | some i =>
      have:((i:Int) == -1)=false:=by
       rw [beq_eq_false_iff_ne];omega
      simp only [ix2,this,Bool.false_eq_true,if_false,Option.map_some]
      omega
def zgk:Nun.Callee:=both (zee 32 tIdx) (both (zee 74 tPre) (both (zee 73 z7i) (both (zee 126 zwt) (both (zee 132 yc3) (both (zee 129 tDq) (both (zee 130 tUm) (both (zee 79 tCut) (both (zee 59 tInd) (both (zee 82 tRep) (both (zee 69 tSpl) (zee 125 tPar)))))))))))
theorem yc5 (hG:∀ w,Γ.G w→zfu w):zbv Tryz.prog Γ zgk:=zeo (zcd (by decide) yjb) (zeo (zcd (by decide) yjc) (zeo (zcd (by decide) yc2) (zeo (zcd (by decide) z7j) (zeo (zcd (by decide) yc4) (zeo (zcd (by decide) ypo) (zeo (zcd (by decide) ypp) (zeo (zcd (by decide) (yjd hG)) (zeo (zcd (by decide) (yje hG)) (zeo (zcd (by decide) (yjf hG)) (zeo (zcd (by decide) (yjg hG)) (zcd (by decide) yjh)))))))))))
theorem yji:zll zgk:=fun s c hs=>by
 unfold zgk
 have h:=zgh (k:=32) (spec:=tIdx) (args:=[.flat (.string (S s)),.flat (.int .u8 (c.toNat:Nat))]) rfl rfl
 rw [zg3 h,zhf,ypn,yem];rfl
theorem yjj:zqn zgk:=fun s p hs hp=>by
 unfold zgk
 rw [zat (zav (by decide))]
 have h:=zgh (k:=74) (spec:=tPre) (args:=[.flat (.string (S s)),.flat (.string (S p))]) rfl rfl
 rw [zg3 h,zhf,zhf];rfl
theorem yc6:zq0 zgk:=fun s hs=>by
 unfold zgk
 rw [zat (zav (by decide))]
 rw [zat (zav (by decide))]
 have h:=zgh (k:=73) (spec:=z7i) (args:=[.flat (.string (S s))]) rfl (by unfold z7i;dsimp only;rw [zcv,if_pos hs,zhf])
 rw [zg3 h];rfl
theorem z7k:zjd zgk:=fun s t hs ht=>by
 unfold zgk
 rw [zat (zav (by decide))]
 rw [zat (zav (by decide))]
 rw [zat (zav (by decide))]
 have h:=zgh (k:=126) (spec:=zwt) (args:=[.flat (.string (S s)),.flat (.string (S t))]) rfl (by unfold zwt;dsimp only;rw [zcv,zcv,if_pos ⟨hs,ht⟩,zhf,zhf])
 rw [zg3 h];rfl
theorem yc7:zq7 zgk:=fun s w hs=>by
 unfold zgk
 rw [zat (zav (by decide))]
 rw [zat (zav (by decide))]
 rw [zat (zav (by decide))]
 rw [zat (zav (by decide))]
 have h:=zgh (k:=132) (spec:=yc3) (args:=[.flat (.string (S s)),.flat (.string (S w))]) rfl rfl
 rw [zg3 h,zhf,zhf];rfl
theorem ypq:z6u zgk:=fun s hs=>by
 unfold zgk
 rw [zat (zav (by decide))]
 rw [zat (zav (by decide))]
 rw [zat (zav (by decide))]
 rw [zat (zav (by decide))]
 rw [zat (zav (by decide))]
 have h:=zgh (k:=129) (spec:=tDq) (args:=[.flat (.string (S s))]) rfl (by unfold tDq;dsimp only;rw [zcv,if_pos hs,zhf])
 rw [zg3 h]
 cases decL s with
 | some t=>rfl
 | none=>rfl
theorem ypr:z6v zgk:=fun s hs=>by
 unfold zgk
 rw [zat (zav (by decide))]
 rw [zat (zav (by decide))]
 rw [zat (zav (by decide))]
 rw [zat (zav (by decide))]
 rw [zat (zav (by decide))]
 rw [zat (zav (by decide))]
 have h:=zgh (k:=130) (spec:=tUm) (args:=[.flat (.string (S s))]) rfl (by unfold tUm;dsimp only;rw [zcv,if_pos hs,zhf])
 rw [zg3 h]
 cases zco (bare s) with
 | some t=>rfl
 | none=>rfl
theorem yjk:zwb zgk:=fun s w hs=>by
 unfold zgk
 rw [zat (zav (by decide))]
 rw [zat (zav (by decide))]
 rw [zat (zav (by decide))]
 rw [zat (zav (by decide))]
 rw [zat (zav (by decide))]
 rw [zat (zav (by decide))]
 rw [zat (zav (by decide))]
 have h:=zgh (k:=79) (spec:=tCut) (args:=[.flat (.string (S s)),.flat (.string (S w))]) rfl (by unfold tCut;dsimp only;rw [zcv,if_pos hs,zhf,zhf])
 rw [zg3 h];rfl
theorem yjl:zq6 zgk:=fun s w hs=>by
 unfold zgk
 rw [zat (zav (by decide))]
 rw [zat (zav (by decide))]
 rw [zat (zav (by decide))]
 rw [zat (zav (by decide))]
 rw [zat (zav (by decide))]
 rw [zat (zav (by decide))]
 rw [zat (zav (by decide))]
 rw [zat (zav (by decide))]
 have h:=zgh (k:=59) (spec:=tInd) (args:=[.flat (.string (S s)),.flat (.string (S w))]) rfl (by unfold tInd;dsimp only;rw [zcv,if_pos hs,zhf,zhf])
 rw [zg3 h];rfl
theorem yjm:zq4 zgk:=fun s o n hs ho hn=>by
 unfold zgk
 rw [zat (zav (by decide))]
 rw [zat (zav (by decide))]
 rw [zat (zav (by decide))]
 rw [zat (zav (by decide))]
 rw [zat (zav (by decide))]
 rw [zat (zav (by decide))]
 rw [zat (zav (by decide))]
 rw [zat (zav (by decide))]
 rw [zat (zav (by decide))]
 have h:=zgh (k:=82) (spec:=tRep) (args:=[.flat (.string (S s)),.flat (.string (S o)),.flat (.string (S n))]) rfl (by unfold tRep;dsimp only;rw [zcv,zcv,zcv,if_pos ⟨hs,ho,hn⟩,zhf,zhf,zhf])
 rw [zg3 h];rfl
theorem yjn:z62 zgk:=fun s hs=>by
 unfold zgk
 rw [zat (zav (by decide))]
 rw [zat (zav (by decide))]
 rw [zat (zav (by decide))]
 rw [zat (zav (by decide))]
 rw [zat (zav (by decide))]
 rw [zat (zav (by decide))]
 rw [zat (zav (by decide))]
 rw [zat (zav (by decide))]
 rw [zat (zav (by decide))]
 rw [zat (zav (by decide))]
 have h:=zgh (k:=69) (spec:=tSpl) (args:=[.flat (.string (S s))]) rfl (by unfold tSpl;dsimp only;rw [zcv,if_pos hs,zhf])
 rw [zg3 h]
 cases zba s with
 | form=>rfl
 | long=>rfl
 | ok F b=>simp only [TupRes.pvs,zgj];rfl
theorem yjo:zwa zgk:=fun s hs=>by
 unfold zgk
 rw [zat (zav (by decide))]
 rw [zat (zav (by decide))]
 rw [zat (zav (by decide))]
 rw [zat (zav (by decide))]
 rw [zat (zav (by decide))]
 rw [zat (zav (by decide))]
 rw [zat (zav (by decide))]
 rw [zat (zav (by decide))]
 rw [zat (zav (by decide))]
 rw [zat (zav (by decide))]
 rw [zat (zav (by decide))]
 have h:=zgh (k:=125) (spec:=tPar) (args:=[.flat (.string (S s))]) rfl (by unfold tPar;dsimp only;rw [zcv,if_pos hs,zhf])
 rw [h]
 cases zbr s with
 | form=>rfl
 | twice=>rfl
 | ok m F=>simp only [TupRes.pvs,zgj];rfl
theorem yjp:LibL zgk:=⟨yji,yjj,yc6,z7k,yjm,ypq,ypr,yjo,yjk,yc7,yjl,yjn⟩
end Go.Proofs.YtmpiobfdchlikaaGreatDoor
end
section
namespace Nun
open Go Go.RowKit Go.Proofs Go.Proofs.YtmpiobfdchlikaaGreatDoor
variable {lib:Callee}
def z7l:CCode:=.reg [0,2,3] [] [⟨some 2,none,.alloc 48 [.flat (.slice none 0 0),.flat (.string ⟨#[]⟩),.flat (.string ⟨#[]⟩),.flat (.slice none 0 0)]⟩,⟨some 3,none,.alloc 26 [.flat (.int .i64 0)]⟩]
def zyj:CCode:=.seq (.reg [0,2,3,4] [] [⟨some 6,none,.build [.flat (.int .i64 0)] []⟩,⟨some 7,none,.box 77 1 (.t 6)⟩,⟨some 4,none,.asg (.t 7)⟩]) (.seq (.reg [2,3] [] [⟨some 8,none,.mv (.t 4)⟩,⟨some 9,none,.mv (.t 0)⟩,⟨some 10,none,.call 39 [.t 8,.t 9,.c (.flat (.int .i64 0))]⟩,⟨none,none,.store 4 (.t 2) (.t 10)⟩,⟨none,none,.store 1 (.t 3) (.c (.flat (.int .i64 0)))⟩]) (.ret [2,3]))
def parD:DFun:=⟨11,[.inr ⟨2,⟨true,4⟩⟩,.inr ⟨3,⟨false,1⟩⟩],z7l,5,38,[.t 2,.t 3],zyj⟩
theorem z7m:zso Tryz.prog [] [[0,2,3]] [[0,2,3,4],[2,3],[2,3]] 18=some parD:=by kernel_rfl
def boxP (j:Nat):zao:=[(48,zad),(26,[.flat (.int .i64 0)]),(RT,rdr j)]
theorem z7n:BxAt boxP 3 2 RT rdr [(0,0),(0,3)] where
 len j:=rfl
 get j:=rfl
 set i j:=rfl
 lt:=by decide
 low j:=rfl
 hlt q hq:=by simp only [List.mem_cons,List.not_mem_nil,or_false] at hq;rcases hq with rfl | rfl<;>decide
 hne q hq:=by simp only [List.mem_cons,List.not_mem_nil,or_false] at hq;rcases hq with rfl | rfl<;>decide
theorem z7o (L:LibL lib) (s:Str) (hs:s.length≤10000) {p:LP} {m:Nat} (h:zed 4 s 0=.ok (p,m)):EvD (evW code lib) big parD [.flat (.string (S s))] [] [] ([.agg p.cells,.flat (.int .i64 0)],false,[],[]):=by
 have hrec:=zrb L 4 0 rfl boxP 3 2 _ z7n s 0 p m hs (by decide) h
 obtain ⟨F',ty',tx',ps'⟩:=p
 have hl2:=fun n=>zae (n:=n) F'
 have hl3:=fun n=>zax (n:=n) ps'
 simp only [LP.cells] at hrec ⊢
 simp only [boxP,zad,rdr,RT,zcw,zql,n0] at hrec
 refine ⟨Nat.le_of_ble_eq_true rfl,.normal,⟨[(0,.flat (.string (S s))),(2,.ptr 0 0),(3,.ptr 1 0)],[.cell 0 0,.cell 0 3],[],[(48,zad),(26,[.flat (.int .i64 0)])]⟩,?_,.ret,⟨[(2,.ptr 0 0),(3,.ptr 1 0)],[],[],[(48,[.slc F'.length (zac F'),.flat (.string (S ty')),.flat (.string (S tx')),.slc ps'.length (zaw ps')]),(26,[.flat (.int .i64 0)]),(RT,rdr m)]⟩,?_,(fun i e=>by cases e),?_⟩
 ·unfold parD z7l zad
  simp (maxSteps:=999999) (disch:=first | assumption | omega) only [go_sem,simprocAttr,au]
 ·unfold parD zyj DFun.mid zad
  simp (maxSteps:=999999) (disch:=first | assumption | omega) only [go_sem,simprocAttr,au,hrec,rdr,hl2,hl3]
 ·have hlw:lows 0 [PV.agg [.slc F'.length (zac F'),.flat (.string (S ty')),.flat (.string (S tx')),.slc ps'.length (zaw ps')],.flat (.int .i64 0)]=true:=by simp only [lows,PV.low,hl2,hl3,Bool.and_self]
  unfold parD finV
  have hv:([Sum.inr (2,true,4),Sum.inr (3,false,1)]:List (Sum Nat (Nat × Bool × Nat))).mapM (resV ⟨[(2,.ptr 0 0),(3,.ptr 1 0)],[],[],[(48,[.slc F'.length (zac F'),.flat (.string (S ty')),.flat (.string (S tx')),.slc ps'.length (zaw ps')]),(26,[.flat (.int .i64 0)]),(RT,rdr m)]⟩)=some [.agg [.slc F'.length (zac F'),.flat (.string (S ty')),.flat (.string (S tx')),.slc ps'.length (zaw ps')],.flat (.int .i64 0)]:=rfl
  dsimp only
  rw [hv,Option.map_some]
  simp [trim,hlw,zbq,zmi]
theorem z7p:yol Tryz.prog 38 2:=by
 intro cvs w h
 match cvs,h with
 | [p,q],_ =>
 refine callsDIn_of_wpSIn Tryz.func38 rfl trivial fun c₀ cs hu=>?_
 simp only [Tryz.ntmps38,List.size_toArray,List.length_cons,List.length_nil,Nat.reduceAdd,Nat.reduceSub,Array.replicate_succ,Array.replicate_zero,List.push_toArray,List.append_toArray,List.nil_append,List.cons_append]
 apply wpSIn_seq
 apply wpSIn_region
 simp [wpOpsSIn,go_sem,recoverD,hu,Exit.thenS]
 apply wpSIn_seq
 apply wpSIn_seq
 apply wpSIn_region
 simp [wpOpsSIn,go_sem,Exit.thenS]
 refine wpSIn_cond (t:=true) (by simp [Act.eval]) ?_
 simp only [if_true]
 refine wpSIn_of_wpIn rfl (wpIn_ret ?_)
 cases c₀
 simp_all [bodyPostS,results,Tryz.results38,Exit.thenS]
end Nun
end

/- LetterSames answers true for all letters: texts of this proof, merged. -/
import Derived.Test.YtmpiobfdchlikaaDoorGf
import Derived.RegionTactic
import Derived.ChangeAlike
import Derived.Maps.AppendAt
import Derived.OwnWalk
import Derived.RangeFuncBox
import Derived.RangeFuncNested
import Derived.Shelf.Strings.SlTrimAscii
import Derived.WalkMore
import Derived.Maps.Range
import Derived.Lib.SplitLaws
import Derived.KernelRfl
set_option linter.unusedVariables false
set_option linter.unusedSimpArgs false
section
namespace Go.Proofs.YtmpiobfdchlikaaDoor
open Go Go.RowKit Nun
attribute [local go_sem] Oper.semAt_some
theorem putObj_box {W:World} {D B t:Nat} {v:Value} (h:D≠B) (hb:Boxed W B t v) (o:Obj):Boxed (W.putObj D o) B t v:=(World.putObj_heap_other (Ne.symm h)).trans hb
theorem results_box {w:World} {tmps:Array Value} {n0:Nat} {v b e:Value} (c1:w.cell? ⟨n0,0,none⟩=some v) (c2:w.cell? ⟨n0+1,0,none⟩=some b) (c3:w.cell? ⟨n0+1+1,0,none⟩=some e)
 (h2:tmps.getD 2 undef=.pointer (some ⟨n0,0,none⟩):=by rfl) (h3:tmps.getD 3 undef=.pointer (some ⟨n0+1,0,none⟩):=by rfl) (h4:tmps.getD 4 undef=.pointer (some ⟨n0+1+1,0,none⟩):=by rfl) :
 (results Tryd.f24 tmps).run Tryd.prog w=.ok (.tuple #[v,b,e]) w:=by
 rw [Array.getD_eq_getD_getElem?] at h2 h3 h4
 simp [results,Tryd.results24,go_sem,c1,c2,c3,h2,h3,h4]
def roundAct (n0:Nat) (s:ByteArray) (x:LineAt):Act:={ tmps:=#[.string s,undef,.pointer (some ⟨n0,0,none⟩),.pointer (some ⟨n0+1,0,none⟩),.pointer (some ⟨n0+1+1,0,none⟩),.string x.1.1,.int .i64 x.1.2,undef,undef,undef,undef,.string s,.func (.func 51) #[] #[.pointer (some ⟨n0+1+1+1,0,none⟩)],.string x.1.1,.int .i64 x.1.2,undef,undef,undef,undef,undef,undef,undef,undef,undef,undef,undef,undef,undef,undef,undef,undef,undef,undef,undef,undef,undef,undef,undef,undef,undef,undef,undef,undef,undef,undef,undef,undef,undef,undef,undef,undef,undef,undef,undef,undef,undef,undef,undef,undef,undef,undef,undef,undef,undef,undef,undef,undef,undef,undef,undef,undef,undef,undef,undef,undef,undef,undef,undef,undef,undef,undef,undef,undef,undef,undef,undef,undef,undef,undef,undef,undef,undef,undef,undef,undef],defers:=[] }
theorem field_more {n0 k:Nat} {w W w2 w3:World} {s p a b:ByteArray} {at_:Nat} {pre:List LineAt} {v v3:Value} {L:Bool} {tmp:Obj} (hp:p.size≤10000∧at_≤20000)
 (hl:Boxed w2 n0 23 v) (hb:Boxed w2 (n0+1) 3 (.int .i64 0)) (he:Boxed w2 (n0+1+1) 27 (.int .i64 (if L then 6 else 0))) (hs:Boxed w2 (n0+1+1+1) 9 (.string s))
 (hB:Below n0 w w2) (hk:KeepsOthers W w2) (hkp:KeepsTwo (n0+1+1+1) 0 W w2) (hg:HGood pre) (hne:¬ p.data.toList=[])
 (hst:lineStep (stOf pre) p.data.toList=some ((stOf pre).1++[(p.data.toList.take k,p.data.toList.drop (k+1))],L)) (hal:a.data.toList=p.data.toList.take k) (hbl:b.data.toList=p.data.toList.drop (k+1))
 (hrow:w2.ownsRow n0 56 2 v (stOf pre).1.length (fldCells (stOf pre).1)) (hw2:n0≤w2.heap.size) (hmax:0<n0)
 (hown:w3.ownsRow n0 56 2 v3 ((stOf pre).1.length+1) (fldCells (stOf pre).1++[.string a,.string b])) (hgr:(w2.alloc tmp).grownBy w3 v.ownBlock) :
 KeepsOthers W (w3.setCell ⟨n0,0,none⟩ v3)∧KeepsTwo (n0+1+1+1) 0 W (w3.setCell ⟨n0,0,none⟩ v3)∧Mid n0 w s (pre++[⟨(p,at_),hp⟩]) (w3.setCell ⟨n0,0,none⟩ v3):=by
 obtain ⟨hg2,hst2⟩:=good_snoc (x:=⟨(p,at_),hp⟩) hg hne hst
 obtain ⟨_,h2,h3,h4,h5⟩:=Boxed.appended hl (by decide) hrow hw2 (Nat.le_refl _) hown hgr
 have kp:∀ {B t:Nat} {u:Value},Boxed w2 B t u→t≠56→B≠n0→Boxed (w3.setCell ⟨n0,0,none⟩ v3) B t u:=fun h ht hn=>((h.alloc tmp).kept hgr (h.not_row ht hrow)).other hn _
 have hs3:=kp hs (by decide) (by omega)
 have ea:(⟨(p.data.toList.take k).toArray⟩:ByteArray)=a:=by apply ByteArray.ext;apply Array.ext';rw [hal]
 have eb:(⟨(p.data.toList.drop (k+1)).toArray⟩:ByteArray)=b:=by apply ByteArray.ext;apply Array.ext';rw [hbl]
 refine ⟨hk.trans h4,keepsTwo_t hkp ⟨Eq.trans hs3 (Eq.symm hs),h5.block _ hmax⟩,⟨⟨⟨_,h2,?_,trivial⟩,kp hb (by decide) (by omega),?_,hs3⟩,hg2⟩,hB.trans h5⟩
 ·rw [hst2,fldCells_snoc]
  dsimp only
  rw [List.length_append,List.length_singleton,ea,eb]
  exact h3
 ·rw [hst2];exact kp he (by decide) (by omega)
theorem last_more {n0 g cap m:Nat} {w W W1:World} {s p:ByteArray} {at_:Nat} {pre:List LineAt} {F0:List Fld} {q:Fld} {L:Bool} (hp:p.size≤10000∧at_≤20000)
 (hl:Boxed W1 n0 23 (.slice (some ⟨g,0,none⟩) (m+1) cap)) (hb:Boxed W1 (n0+1) 3 (.int .i64 0)) (he:Boxed W1 (n0+1+1) 27 (.int .i64 (if L then 6 else 0))) (hs:Boxed W1 (n0+1+1+1) 9 (.string s))
 (hB:Below n0 w W1) (hk:KeepsOthers W W1) (hkp:KeepsTwo (n0+1+1+1) 0 W W1) (hg:HGood pre) (hne:¬ p.data.toList=[])
 (hst:lineStep (stOf pre) p.data.toList=some (F0++[(q.1,q.2++p.data.toList)],L)) (hm:F0.length=m) (hg0:n0≤g)
 (hrow:W1.ownsRow n0 56 2 (.slice (some ⟨g,0,none⟩) (m+1) cap) (m+1) (fldCells F0++[.string ⟨q.1.toArray⟩,.string ⟨q.2.toArray⟩])) (hmax:0<n0) :
 KeepsOthers W (W1.setCell ⟨g,m * 2+1,none⟩ (.string (⟨q.2.toArray⟩++p)))∧KeepsTwo (n0+1+1+1) 0 W (W1.setCell ⟨g,m * 2+1,none⟩ (.string (⟨q.2.toArray⟩++p)))∧Mid n0 w s (pre++[⟨(p,at_),hp⟩]) (W1.setCell ⟨g,m * 2+1,none⟩ (.string (⟨q.2.toArray⟩++p))):=by
 obtain ⟨hg2,hst2⟩:=good_snoc (x:=⟨(p,at_),hp⟩) hg hne hst
 have ne:∀ {B t:Nat} {u:Value},Boxed W1 B t u→t≠56→B≠g:=fun h ht e=>h.not_row ht hrow (by rw [e];rfl)
 have n1:=ne hl (by decide);have n2:=ne hb (by decide);have n3:=ne he (by decide);have n4:=ne hs (by decide)
 have kp:∀ {B t:Nat} {u:Value},Boxed W1 B t u→B≠g→Boxed (W1.setCell ⟨g,m * 2+1,none⟩ (.string (⟨q.2.toArray⟩++p))) B t u:=fun h hn=>(Below.heap_setCell _ _ _ _ hn).trans h
 refine ⟨hk.trans (KeepsOthers.setCell _ _ _),keepsTwo_t hkp (keepsTwo_set n4 (by omega) _ _),⟨⟨⟨_,kp hl n1,?_,trivial⟩,kp hb n2,?_,kp hs n4⟩,hg2⟩,hB.setCell (p:=⟨g,m * 2+1,none⟩) hg0 _⟩
 ·have:=(hrow.stored (m * 2+1) (.string (⟨q.2.toArray⟩++p))).1
  rw [hst2,fldCells_snoc]
  dsimp only
  rw [List.length_append,hm,List.length_singleton]
  rw [List.set_append_right _ _ (by rw [fldCells_len];omega),fldCells_len,hm,show m * 2+1 - m * 2=1 by omega] at this
  have e:(ByteArray.mk q.2.toArray++p)=⟨(q.2++p.data.toList).toArray⟩:=by
   apply ByteArray.ext;apply Array.ext';simp
  rw [e] at this
  rw [← e];rw [← e] at this
  exact this
 ·rw [hst2];exact kp he n3
theorem infoField:(Tryd.prog.info? 56).map (fun i=>(i.zero,i.size,i.bytes))=some (some (.agg #[.string ⟨#[]⟩,.string ⟨#[]⟩]),2,32):=by kernel_rfl
theorem form_out {n0:Nat} {w W W1:World} {v:Value} {b e:Int} {pre:List LineAt} {x:LineAt} (hl:Boxed W1 n0 23 v) (hb:Boxed W1 (n0+1) 3 (.int .i64 b)) (he:Boxed W1 (n0+1+1) 27 (.int .i64 e))
 (hB:Below n0 w W1) (hk:KeepsOthers W W1) (hg:HGood pre) (hx:x.1.1.data.toList≠[]) (hs:lineStep (stOf pre) x.1.1.data.toList=none) :
 KeepsOthers W (((W1.setCell ⟨n0,0,none⟩ (.slice none 0 0)).setCell ⟨n0+1,0,none⟩ (.int .i64 0)).setCell ⟨n0+1+1,0,none⟩ (.int .i64 7)) ∧
 Out n0 w .ret (pre++[x]) (((W1.setCell ⟨n0,0,none⟩ (.slice none 0 0)).setCell ⟨n0+1,0,none⟩ (.int .i64 0)).setCell ⟨n0+1+1,0,none⟩ (.int .i64 7)) :=
 ⟨((hk.trans (KeepsOthers.setCell _ _ _)).trans (KeepsOthers.setCell _ _ _)).trans (KeepsOthers.setCell _ _ _),
   .inl ⟨⟨⟨((hl.set _).other (by omega) _).other (by omega) _,((hb.other (by omega) _).set _).other (by omega) _,((he.other (by omega) _).other (by omega) _).set _⟩,rfl,pre,x,rfl,hg,hx,hs⟩,
    ((hB.setCell (p:=⟨n0,0,none⟩) (Nat.le_refl _) _).setCell (p:=⟨n0+1,0,none⟩) (by simp) _).setCell (p:=⟨n0+1+1,0,none⟩) (by simp;omega) _⟩⟩
set_option maxHeartbeats 2000000 in
set_option maxRecDepth 100000 in
theorem split_any (s:ByteArray) (w:World) (hm:MaxIs w) (hs:s.size≤10000):Calls Tryd.prog 24 #[.string s] w (splitV (splitL s.data.toList) w):=by
 refine (callsIn_wide (n:=3)).1 ?_
 refine callsIn_of_wp_marks Tryd.func24 rfl trivial ?_ rfl
 simp only [Tryd.ntmps24,List.size_toArray,List.length_cons,List.length_nil,Nat.reduceAdd,Nat.reduceSub,Array.replicate_succ,Array.replicate_zero,List.push_toArray,List.append_toArray,List.nil_append,List.cons_append]
 refine wpIn_wide.2 ?_
 go_wp2_with (go_at_call 36;refine (lines_any _ _).mono ?_;rintro e w' ⟨rfl,rfl⟩)
 obtain ⟨n0,hn0⟩:∃ n0,w.heap.size=n0:=⟨_,rfl⟩
 have hB0:Below n0 w ((((w.alloc (.cells #[.slice none 0 0] 23)).alloc (.cells #[.int .i64 0] 3)).alloc (.cells #[.int .i64 0] 27)).alloc (.cells #[.string s] 9)):=by
  rw [← hn0];exact ((((Below.refl _ w).alloc (Nat.le_refl _) _).alloc (by simp) _).alloc (by simp;omega) _).alloc (by simp;omega) _
 have hl0:Boxed ((((w.alloc (.cells #[.slice none 0 0] 23)).alloc (.cells #[.int .i64 0] 3)).alloc (.cells #[.int .i64 0] 27)).alloc (.cells #[.string s] 9)) n0 23 (.slice none 0 0):=by
  rw [← hn0];exact (((Boxed.new w _ _).alloc _).alloc _).alloc _
 have hb0:Boxed ((((w.alloc (.cells #[.slice none 0 0] 23)).alloc (.cells #[.int .i64 0] 3)).alloc (.cells #[.int .i64 0] 27)).alloc (.cells #[.string s] 9)) (n0+1) 3 (.int .i64 0):=by
  have:=Boxed.new (w.alloc (.cells #[.slice none 0 0] 23)) 3 (.int .i64 0)
  rw [World.size_alloc,hn0] at this
  exact (this.alloc _).alloc _
 have he0:Boxed ((((w.alloc (.cells #[.slice none 0 0] 23)).alloc (.cells #[.int .i64 0] 3)).alloc (.cells #[.int .i64 0] 27)).alloc (.cells #[.string s] 9)) (n0+1+1) 27 (.int .i64 0):=by
  have:=Boxed.new ((w.alloc (.cells #[.slice none 0 0] 23)).alloc (.cells #[.int .i64 0] 3)) 27 (.int .i64 0)
  rw [World.size_alloc,World.size_alloc,hn0] at this
  exact this.alloc _
 have hs0:Boxed ((((w.alloc (.cells #[.slice none 0 0] 23)).alloc (.cells #[.int .i64 0] 3)).alloc (.cells #[.int .i64 0] 27)).alloc (.cells #[.string s] 9)) (n0+1+1+1) 9 (.string s):=by
  have:=Boxed.new (((w.alloc (.cells #[.slice none 0 0] 23)).alloc (.cells #[.int .i64 0] 3)).alloc (.cells #[.int .i64 0] 27)) 9 (.string s)
  rw [World.size_alloc,World.size_alloc,World.size_alloc,hn0] at this
  exact this
 have hsz:((((w.alloc (.cells #[.slice none 0 0] 23)).alloc (.cells #[.int .i64 0] 3)).alloc (.cells #[.int .i64 0] 27)).alloc (.cells #[.string s] 9)).heap.size=n0+1+1+1+1:=by
  simp only [World.size_alloc,hn0]
 have hr0:((((w.alloc (.cells #[.slice none 0 0] 23)).alloc (.cells #[.int .i64 0] 3)).alloc (.cells #[.int .i64 0] 27)).alloc (.cells #[.string s] 9)).ownsRow n0 56 2 (.slice none 0 0) 0 []:=World.ownsRow_nil _ _ _ _
 have hm0:MaxIs ((((w.alloc (.cells #[.slice none 0 0] 23)).alloc (.cells #[.int .i64 0] 3)).alloc (.cells #[.int .i64 0] 27)).alloc (.cells #[.string s] 9)):=hm.below' (by rw [← hn0];exact hm.lt) hB0
 have hmlt:0<n0:=by rw [← hn0];exact hm.lt
 have hwn:n0≤w.heap.size:=by omega
 rw [hn0]
 generalize ((((w.alloc (.cells #[.slice none 0 0] 23)).alloc (.cells #[.int .i64 0] 3)).alloc (.cells #[.int .i64 0] 27)).alloc (.cells #[.string s] 9))=W0 at *
 refine (wpIn_wide (n:=3)).1 ?_
 refine wpIn_rangeFunc_ownF rfl (by omega) (gf:=51) (lb:=#[.pointer (some ⟨n0+1+1+1,0,none⟩)]) rfl trivial (enters_of Tryd.func51 (by kernel_rfl) rfl)
  (lines_stops _ (by omega) s hs (n0+1+1+1) _ hs0 hm0) keepsTwo_t (keepsTwo_b (by omega) (by omega)) (Below.refl _ _) (fun _=>rfl)
  (Mid n0 w s) (Out n0 w) (mid_own n0 w s _ hwn (by omega)) (fun c=>out_own n0 w c _ hwn (by omega))
  ⟨⟨⟨⟨_,hl0,hr0,trivial⟩,hb0,he0,hs0⟩,good_nil⟩,hB0⟩ (roundAct n0 s) ?assign ?body ?done ?stop
 case assign =>
  intro l x W K hK
  gi_wp2
  exact hK
 case body =>
  rintro l pre x W ⟨⟨⟨⟨v,hbl,hrow,_⟩,hbb,hbe,hbs⟩,hgood⟩,hB⟩ hlen
  have hcl:=hbl.cell;have hcb:=hbb.cell;have hce:=hbe.cell
  have hfl:=hbl.frozen;have hfb:=hbb.frozen;have hfe:=hbe.frozen
  have HL:=Lib.hid hbl;have HBB:=Lib.hid hbb;have HE:=Lib.hid hbe;have HS:=Lib.hid hbs;clear hbl hbb hbe hbs
  obtain ⟨⟨p,at_⟩,hp⟩:=x
  dsimp only at hp
  unfold roundAct
  dsimp only
  by_cases he:p.data.toList=[]
  ·obtain rfl:p=⟨#[]⟩:=by cases p with | mk d=>cases d with | mk l=>simp at he;subst he;rfl
   clear he
   gi_wp2
   refine ⟨KeepsOthers.setCell _ _ _,.inr ⟨⟨⟨⟨v,HL.out.other (by omega) _,?_,trivial⟩,?_,?_⟩,rfl,pre,_,rfl,hgood,rfl⟩,hB.setCell (p:=⟨n0+1,0,none⟩) (by simp) _⟩⟩
   ·rw [List.dropLast_concat];exact row_set HBB.out (by decide) hrow _
   ·rw [List.getLast?_concat];exact HBB.out.set _
   ·rw [List.dropLast_concat];exact HE.out.other (by omega) _
  ·have HNE:=Lib.hid he;clear he
   have e1:p.toList=[] ↔ False:=by rw [Lib.toList_data];exact iff_of_false HNE.out id
   have e2:p.toList.isEmpty=false:=by
    rw [Lib.toList_data]
    cases h:p.data.toList with
    | nil=>exact absurd h HNE.out
    | cons _ _=>rfl
   have hpos:0<p.size:=by
    rcases Nat.eq_zero_or_pos p.size with h | h
    ·exact absurd (List.eq_nil_of_length_eq_zero h) HNE.out
    ·exact h
   obtain ⟨W1,hWa,hWb,hl1,hb1,he1,hs1,hrow1,hB1,hk1,hkp1⟩:∃ W1:World,(998<p.size→W.setCell ⟨n0+1+1,0,none⟩ (.int .i64 6)=W1)∧(¬ 998<p.size→W=W1)∧Boxed W1 n0 23 v∧Boxed W1 (n0+1) 3 (.int .i64 0) ∧
    Boxed W1 (n0+1+1) 27 (.int .i64 (if (stOf pre).2 || decide (998<p.data.toList.length) then 6 else 0))∧Boxed W1 (n0+1+1+1) 9 (.string s)∧W1.ownsRow n0 56 2 v (stOf pre).1.length (fldCells (stOf pre).1)∧Below n0 w W1∧KeepsOthers W W1∧KeepsTwo (n0+1+1+1) 0 W W1:=by
    rw [show p.data.toList.length=p.size from rfl]
    by_cases hlong:998<p.size
    ·refine ⟨_,fun _=>rfl,fun h=>absurd hlong h,HL.out.other (by omega) _,HBB.out.other (by omega) _,?_,HS.out.other (by omega) _,row_set HE.out (by decide) hrow _,hB.setCell (p:=⟨n0+1+1,0,none⟩) (by simp;omega) _,KeepsOthers.setCell _ _ _,keepsTwo_set (by omega) (by omega) _ _⟩
     rw [show decide (998<p.size)=true by simpa using hlong,Bool.or_true];exact HE.out.set _
    ·refine ⟨W,fun h=>absurd h hlong,fun _=>rfl,HL.out,HBB.out,?_,HS.out,hrow,hB,KeepsOthers.refl _,keepsTwo_below (by have:=HS.out.lt;omega) (by have:=HS.out.lt;omega) (Below.refl _ _)⟩
     rw [show decide (998<p.size)=false by simpa using hlong,Bool.or_false];exact HE.out
   clear HL HBB HE HS
   have hcl1:=hl1.cell;have hcb1:=hb1.cell;have hce1:=he1.cell
   have hfl1:=hl1.frozen;have hfb1:=hb1.frozen;have hfe1:=he1.frozen
   have HL:=Lib.hid hl1;have HBB:=Lib.hid hb1;have HE:=Lib.hid he1;have HS:=Lib.hid hs1;clear hl1 hb1 he1 hs1
   have hpm:p.size≤maxLen:=by unfold maxLen;omega
   have hhead:=head_blank p hpos
   rcases hbl:blankC p[0] with _ | _
   ·rw [hbl] at hhead
    obtain ⟨q1,q2⟩:=blank_no _ hbl
    clear hbl
    have hm1:MaxIs W1:=hm.below' (by omega) hB1
    have hBs:w.heap.size≤W1.heap.size:=hB1.size
    rcases hco:byteAt 58 p.data.toList with _ | k
    ·have HSt:=Lib.hid (step_nocolon (st:=stOf pre) hhead hco)
     have HCO:=Lib.hid hco;clear hco hhead
     by_cases hlong:998<p.size
     all_goals first | (replace hWa:=hWa hlong;clear hWb) | (obtain rfl:=hWb hlong;clear hWa hWb)
     all_goals
      gi_wp2_with (refine ⟨trivial,?_⟩;gi_at_call 38;refine (CallsIn.inRound l (callsIn_wide.2 (cut_byte_no 58 p _ hm1 (by omega) HCO.out))).mono ?_;rintro e w2 ⟨rfl,hbw⟩;have hl2:Boxed w2 n0 23 v:=(hbw.block _ HL.out.lt).trans HL.out;have hb2:Boxed w2 (n0+1) 3 (.int .i64 0):=(hbw.block _ HBB.out.lt).trans HBB.out;have he2:Boxed w2 (n0+1+1) 27 (.int .i64 (if ((stOf pre).2 || decide (998<p.data.toList.length))=true then 6 else 0)):=(hbw.block _ HE.out.lt).trans HE.out;have hcl2:=Boxed.cell hl2;have hfl2:=Boxed.frozen hl2;have hcb2:=Boxed.cell hb2;have hfb2:=Boxed.frozen hb2;have hce2:=Boxed.cell he2;have hfe2:=Boxed.frozen he2;have HL2:=Lib.hid hl2;have HB2:=Lib.hid hb2;have HE2:=Lib.hid he2;clear hl2 hb2 he2)
      refine ⟨trivial,?_⟩
      gi_wp2
      refine ⟨trivial,?_⟩
      gi_wp2
      exact form_out (x:=⟨(p,at_),hp⟩) HL2.out HB2.out HE2.out (hB1.trans (hbw.mono (Nat.le_trans hwn hBs))) (hk1.trans (keeps_below hbw)) hgood HNE.out HSt.out
    ·have hkl:=byteAt_lt hco
     rw [show p.data.toList.length=p.size from rfl] at hkl
     rcases hna:nameL (p.data.toList.take k) with _ | _
     ·have HSt:=Lib.hid (step_noname (st:=stOf pre) hhead hco hna)
      have HCO:=Lib.hid hco;have HNA:=Lib.hid hna;clear hco hhead hna
      by_cases hlong:998<p.size
      all_goals first | (replace hWa:=hWa hlong;clear hWb) | (obtain rfl:=hWb hlong;clear hWa hWb)
      all_goals
       gi_wp2_with (first | (refine ⟨trivial,?_⟩;gi_at_call 38;refine (CallsIn.inRound l (callsIn_wide.2 (cut_byte_yes 58 p _ hm1 (by omega) k HCO.out))).mono ?_;rintro e w2 ⟨a,b,rfl,hak,hbk,hal,hbl,hbw⟩;have haz:a.size≤maxLen:=(by unfold maxLen;omega);have HAK:=Lib.hid hak;clear hak;have hl2:Boxed w2 n0 23 v:=(hbw.block _ HL.out.lt).trans HL.out;have hb2:Boxed w2 (n0+1) 3 (.int .i64 0):=(hbw.block _ HBB.out.lt).trans HBB.out;have he2:Boxed w2 (n0+1+1) 27 (.int .i64 (if ((stOf pre).2 || decide (998<p.data.toList.length))=true then 6 else 0)):=(hbw.block _ HE.out.lt).trans HE.out;have hcl2:=Boxed.cell hl2;have hfl2:=Boxed.frozen hl2;have hcb2:=Boxed.cell hb2;have hfb2:=Boxed.frozen hb2;have hce2:=Boxed.cell he2;have hfe2:=Boxed.frozen he2;have HL2:=Lib.hid hl2;have HB2:=Lib.hid hb2;have HE2:=Lib.hid he2;clear hl2 hb2 he2;have hrow2:=own_below hrow1 hbw;have hs2:Boxed w2 (n0+1+1+1) 9 (.string s):=(hbw.block _ HS.out.lt).trans HS.out;have HS2:=Lib.hid hs2;clear hs2;have hw2n:n0≤w2.heap.size:=(by have:=hbw.size;omega)) | (refine ⟨trivial,?_⟩;gi_at_call 39;refine (CallsIn.inRound l (callsIn_wide.2 (named_of a false (by rw [hal.out];exact HNA.out) _ haz))).mono ?_;rintro e w3 ⟨rfl,rfl⟩))
       refine ⟨trivial,?_⟩
       gi_wp2
       exact form_out (x:=⟨(p,at_),hp⟩) HL2.out HB2.out HE2.out (hB1.trans (hbw.mono (Nat.le_trans hwn hBs))) (hk1.trans (keeps_below hbw)) hgood HNE.out HSt.out
     ·rcases hsh:p.data.toList.all shownC with _ | _
      ·have HSt:=Lib.hid (step_hid (st:=stOf pre) hsh)
       have HSH:=Lib.hid hsh
       have HCO:=Lib.hid hco;have HNA:=Lib.hid hna;clear hco hhead hna hsh
       by_cases hlong:998<p.size
       all_goals first | (replace hWa:=hWa hlong;clear hWb) | (obtain rfl:=hWb hlong;clear hWa hWb)
       all_goals
        gi_wp2_with (first | (refine ⟨trivial,?_⟩;gi_at_call 38;refine (CallsIn.inRound l (callsIn_wide.2 (cut_byte_yes 58 p _ hm1 (by omega) k HCO.out))).mono ?_;rintro e w2 ⟨a,b,rfl,hak,hbk,hal,hbl,hbw⟩;have haz:a.size≤maxLen:=(by unfold maxLen;omega);have HAK:=Lib.hid hak;clear hak;have hl2:Boxed w2 n0 23 v:=(hbw.block _ HL.out.lt).trans HL.out;have hb2:Boxed w2 (n0+1) 3 (.int .i64 0):=(hbw.block _ HBB.out.lt).trans HBB.out;have he2:Boxed w2 (n0+1+1) 27 (.int .i64 (if ((stOf pre).2 || decide (998<p.data.toList.length))=true then 6 else 0)):=(hbw.block _ HE.out.lt).trans HE.out;have hcl2:=Boxed.cell hl2;have hfl2:=Boxed.frozen hl2;have hcb2:=Boxed.cell hb2;have hfb2:=Boxed.frozen hb2;have hce2:=Boxed.cell he2;have hfe2:=Boxed.frozen he2;have HL2:=Lib.hid hl2;have HB2:=Lib.hid hb2;have HE2:=Lib.hid he2;clear hl2 hb2 he2;have hrow2:=own_below hrow1 hbw;have hs2:Boxed w2 (n0+1+1+1) 9 (.string s):=(hbw.block _ HS.out.lt).trans HS.out;have HS2:=Lib.hid hs2;clear hs2;have hw2n:n0≤w2.heap.size:=(by have:=hbw.size;omega)) | (refine ⟨trivial,?_⟩;gi_at_call 39;refine (CallsIn.inRound l (callsIn_wide.2 (named_of a true (by rw [hal.out];exact HNA.out) _ haz))).mono ?_;rintro e w3 ⟨rfl,rfl⟩) | (refine ⟨trivial,?_⟩;gi_at_call 37;refine (CallsIn.inRound l (callsIn_wide.2 (shown_of p false HSH.out _ hpm))).mono ?_;rintro e w3 ⟨rfl,rfl⟩))
        exact form_out (x:=⟨(p,at_),hp⟩) HL2.out HB2.out HE2.out (hB1.trans (hbw.mono (Nat.le_trans hwn hBs))) (hk1.trans (keeps_below hbw)) hgood HNE.out HSt.out
      ·obtain ⟨i0,hi0,hz0,hz1,hz2⟩:=info_parts infoField
       have hgl:=good_len hgood
       have hstep:=step_field (st:=stOf pre) hsh hhead hco hna
       have HSt:=Lib.hid hstep
       have HSH:=Lib.hid hsh
       have HCO:=Lib.hid hco;have HNA:=Lib.hid hna;clear hco hhead hna hsh hstep
       by_cases hlong:998<p.size
       all_goals first | (replace hWa:=hWa hlong;clear hWb) | (obtain rfl:=hWb hlong;clear hWa hWb)
       all_goals
        gi_wp2_with (first | (refine ⟨trivial,?_⟩;gi_at_call 38;refine (CallsIn.inRound l (callsIn_wide.2 (cut_byte_yes 58 p _ hm1 (by omega) k HCO.out))).mono ?_;rintro e w2 ⟨a,b,rfl,hak,hbk,hal,hbl,hbw⟩;have haz:a.size≤maxLen:=(by unfold maxLen;omega);have HAK:=Lib.hid hak;clear hak;have hl2:Boxed w2 n0 23 v:=(hbw.block _ HL.out.lt).trans HL.out;have hb2:Boxed w2 (n0+1) 3 (.int .i64 0):=(hbw.block _ HBB.out.lt).trans HBB.out;have he2:Boxed w2 (n0+1+1) 27 (.int .i64 (if ((stOf pre).2 || decide (998<p.data.toList.length))=true then 6 else 0)):=(hbw.block _ HE.out.lt).trans HE.out;have hcl2:=Boxed.cell hl2;have hfl2:=Boxed.frozen hl2;have hcb2:=Boxed.cell hb2;have hfb2:=Boxed.frozen hb2;have hce2:=Boxed.cell he2;have hfe2:=Boxed.frozen he2;have HL2:=Lib.hid hl2;have HB2:=Lib.hid hb2;have HE2:=Lib.hid he2;clear hl2 hb2 he2;have hrow2:=own_below hrow1 hbw;have hs2:Boxed w2 (n0+1+1+1) 9 (.string s):=(hbw.block _ HS.out.lt).trans HS.out;have HS2:=Lib.hid hs2;clear hs2;have hw2n:n0≤w2.heap.size:=(by have:=hbw.size;omega)) | (refine ⟨trivial,?_⟩;gi_at_call 39;refine (CallsIn.inRound l (callsIn_wide.2 (named_of a true (by rw [hal.out];exact HNA.out) _ haz))).mono ?_;rintro e w3 ⟨rfl,rfl⟩) | (refine ⟨trivial,?_⟩;gi_at_call 37;refine (CallsIn.inRound l (callsIn_wide.2 (shown_of p true HSH.out _ hpm))).mono ?_;rintro e w3 ⟨rfl,rfl⟩) | (gi_at_builtin;refine wpListIn_append_own _ rfl _ _ 23 rfl n0 56 i0 _ 2 32 Tryd.underlying23 hi0 hz0 hz1 hz2 rfl (by decide) _ _ _ rfl (hrow2.alloc _) ⟨w2.heap.size,0,none⟩ 1 1 [.string a,.string b] rfl rfl (cell_two_new _ _ _ _) (by simp [Value.oneCell']) (by unfold maxLen;omega) (by omega) (by simp;omega) ?_;intro v3 w3 hown3 hgr3 _;obtain ⟨g3,cap3,rfl⟩:=ownsRow_succ hown3;have hap:=Boxed.appended HL2.out (by decide) hrow2 hw2n (Nat.le_refl _) hown3 hgr3;have hc3:=hap.1.cell;have hf3:=hap.1.frozen;clear hap))
        exact field_more hp HL2.out HB2.out HE2.out HS2.out (hB1.trans (hbw.mono (Nat.le_trans hwn hBs))) (hk1.trans (keeps_below hbw)) (keepsTwo_t hkp1 (keepsTwo_below HS.out.lt hm1.lt hbw)) hgood HNE.out HSt.out hal.out hbl.out hrow2 hw2n hmlt hown3 hgr3
   ·rw [hbl] at hhead
    have hb2:=blank_yes _ hbl
    clear hbl
    rcases hFe:(stOf pre).1.reverse with _ | ⟨q,R⟩
    ·have hF:(stOf pre).1=[]:=by simpa using hFe
     have HSt:=Lib.hid (step_blank_nil (l:=p.data.toList) hhead hF)
     have hz:(stOf pre).1.length=0:=by rw [hF];rfl
     clear hFe hF hhead
     rw [hz] at hrow1
     clear hz
     have hv:∃ a cap,v=.slice a 0 cap:=by
      rcases row_form hrow1 with ⟨h,_⟩ | ⟨g,cap,h,_⟩
      ·exact ⟨_,_,h⟩
      ·exact ⟨_,_,h⟩
     obtain ⟨a,cap,rfl⟩:=hv
     clear hrow1
     by_cases hlong:998<p.size
     all_goals first | (replace hWa:=hWa hlong;clear hWb) | (obtain rfl:=hWb hlong;clear hWa hWb)
     all_goals rcases hb2 with q1 | ⟨q1,q2⟩
     all_goals
      gi_wp2
      refine ⟨trivial,?_⟩
      gi_wp2
      exact form_out (x:=⟨(p,at_),hp⟩) HL.out HBB.out HE.out hB1 hk1 hgood HNE.out HSt.out
    ·have hF:(stOf pre).1=R.reverse++[q]:=by rw [← List.reverse_reverse (stOf pre).1,hFe,List.reverse_cons]
     obtain ⟨F0,hF0⟩:∃ F0,R.reverse=F0:=⟨_,rfl⟩
     rw [hF0] at hF
     have hlen1:(stOf pre).1.length=F0.length+1:=by rw [hF];simp
     rw [hlen1,hF,fldCells_snoc] at hrow1
     obtain ⟨m,hm0⟩:∃ m,F0.length=m:=⟨_,rfl⟩
     rw [hm0] at hrow1
     obtain ⟨g,cap,rfl,hg0,hglt,hcap⟩:∃ g cap,v=.slice (some ⟨g,0,none⟩) (m+1) cap∧n0≤g∧g<W1.heap.size∧m+1≤cap:=by
      rcases row_form hrow1 with ⟨_,h⟩ | ⟨g,cap,h⟩
      ·omega
      ·exact ⟨g,cap,h⟩
     have hcell:=hrow1.cellAt (m * 2+1) (by omega)
     rw [List.getElem?_append_right (by rw [fldCells_len];omega),fldCells_len,hm0,show m * 2+1 - m * 2=1 by omega] at hcell
     have hfro:=hrow1.frozenAt (m * 2+1)
     have hcell':W1.cell? ⟨g,m * 2+1,none⟩=some (.string ⟨q.2.toArray⟩):=hcell
     have HROW:=Lib.hid hrow1
     have HF:=Lib.hid hF
     have hml:m≤1000001:=by have:=good_len hgood;omega
     have HM:=Lib.hid hm0
     have hqs:(ByteArray.mk q.2.toArray).size≤200000000:=by
      have:=good_vals hgood q (by rw [hF];simp)
      show q.2.length≤_;omega
     clear hcell hF hFe hF0 hlen1 hrow1 hm0
     rcases hsh:p.data.toList.all shownC with _ | _
     ·have HSt:=Lib.hid (step_hid (st:=stOf pre) hsh)
      have HSH:=Lib.hid hsh;clear hsh hhead
      by_cases hlong:998<p.size
      all_goals first | (replace hWa:=hWa hlong;clear hWb) | (obtain rfl:=hWb hlong;clear hWa hWb)
      all_goals rcases hb2 with q1 | ⟨q1,q2⟩
      all_goals
       gi_wp2_with (refine ⟨trivial,?_⟩;gi_at_call 37;refine (CallsIn.inRound l (callsIn_wide.2 (shown_of p false HSH.out _ hpm))).mono ?_;rintro e w2 ⟨rfl,rfl⟩)
       exact form_out (x:=⟨(p,at_),hp⟩) HL.out HBB.out HE.out hB1 hk1 hgood HNE.out HSt.out
     ·have hstep:=step_blank (st:=stOf pre) (l:=p.data.toList) hsh hhead HF.out
      have HSt:=Lib.hid hstep
      have HSH:=Lib.hid hsh;clear hsh hhead hstep
      by_cases hlong:998<p.size
      all_goals first | (replace hWa:=hWa hlong;clear hWb) | (obtain rfl:=hWb hlong;clear hWa hWb)
      all_goals rcases hb2 with q1 | ⟨q1,q2⟩
      all_goals
       gi_wp2_with (refine ⟨trivial,?_⟩;gi_at_call 37;refine (CallsIn.inRound l (callsIn_wide.2 (shown_of p true HSH.out _ hpm))).mono ?_;rintro e w2 ⟨rfl,rfl⟩)
       exact last_more hp HL.out HBB.out HE.out HS.out hB1 hk1 hkp1 hgood HNE.out HSt.out HM.out hg0 HROW.out hmlt
 case done =>
  rintro D xs W hD hS ⟨⟨⟨⟨v,hbl,hrow,_⟩,hbb,hbe,hbs⟩,hgood⟩,hB⟩ hK
  have hform:splitL s.data.toList=.form:=by
   unfold splitL
   rw [← hS,← List.append_nil (xs.map LineAt.pair),run_good hgood];rfl
  have hcl:=hbl.cell;have hcb:=hbb.cell;have hce:=hbe.cell
  have hfl:=hbl.frozen;have hfb:=hbb.frozen;have hfe:=hbe.frozen
  have HK:=Lib.hid hK;have HFo:=Lib.hid hform
  have HL:=Lib.hid hbl;have HBB:=Lib.hid hbb;have HE:=Lib.hid hbe;clear hbl hbb hbe hbs hK hform hS
  go_wp2
  rw [HFo.out]
  have hK2:=(((KeepsOthers.setCell W ⟨n0,0,none⟩ (.slice none 0 0)).trans (KeepsOthers.setCell _ ⟨n0+1,0,none⟩ (.int .i64 0))).trans (KeepsOthers.setCell _ ⟨n0+1+1,0,none⟩ (.int .i64 7))).same D _ HK.out rfl
  have h1:=(((HL.out.set (.slice none 0 0)).other (show n0≠n0+1 by omega) (.int .i64 0)).other (show n0≠n0+1+1 by omega) (.int .i64 7))
  have h2:=(((HBB.out.other (show n0+1≠n0 by omega) (.slice none 0 0)).set (.int .i64 0)).other (show n0+1≠n0+1+1 by omega) (.int .i64 7))
  have h3:=(((HE.out.other (show n0+1+1≠n0 by omega) (.slice none 0 0)).other (show n0+1+1≠n0+1 by omega) (.int .i64 0)).set (.int .i64 7))
  have h4:=((hB.setCell (p:=⟨n0,0,none⟩) (Nat.le_refl _) (.slice none 0 0)).setCell (p:=⟨n0+1,0,none⟩) (by simp) (.int .i64 0)).setCell (p:=⟨n0+1+1,0,none⟩) (by simp;omega) (.int .i64 7)
  refine ⟨by simp,.inl ⟨_,_,rfl,run_takeDeferred hK2,?_⟩⟩
  have hd0:D≠n0:=by omega
  have hd1:D≠n0+1:=by omega
  have hd2:D≠n0+1+1:=by omega
  have c1:=(putObj_box hd0 h1 (.deferred none)).cell;have c2:=(putObj_box hd1 h2 (.deferred none)).cell;have c3:=(putObj_box hd2 h3 (.deferred none)).cell
  exact ⟨_,results_box c1 c2 c3,rfl,by rw [hn0];exact h4.trans (belowK_b (w:=w) hwn _ D _ _ (by omega) hK2 rfl rfl)⟩
 case stop =>
  rintro D c pre W hD hSp hout hK
  rcases hout with ⟨⟨⟨hbl,hbb,hbe⟩,rfl,pre0,x,rfl,hg,hx,hst⟩,hB⟩ | ⟨⟨⟨⟨v,hbl,hrow,_⟩,hbb,hbe⟩,rfl,pre0,x,rfl,hg,hx⟩,hB⟩
  ·have hform:splitL s.data.toList=.form:=by
    obtain ⟨r,hr⟩:=hSp
    unfold splitL
    rw [← hr,List.map_append,List.append_assoc,run_good hg,List.map_singleton]
    show (match runHead ((x.1.1.data.toList,x.1.2)::r) _ with | none=>Split.form | some (_,true,_)=>.long | some (f,false,b)=>.ok (f.map fun p:Fld=>(p.1,trimB p.2)) b)=_
    rw [runHead,if_neg hx,hst]
   have hcl:=hbl.cell;have hcb:=hbb.cell;have hce:=hbe.cell
   have hfl:=hbl.frozen;have hfb:=hbb.frozen;have hfe:=hbe.frozen
   have HK:=Lib.hid hK;have HFo:=Lib.hid hform
   have HL:=Lib.hid hbl;have HBB:=Lib.hid hbb;have HE:=Lib.hid hbe;clear hbl hbb hbe hK hform
   gi_wp2
   rw [HFo.out]
   refine ⟨by simp,.inl ⟨_,_,rfl,run_takeDeferred HK.out,?_⟩⟩
   have hd0:D≠n0:=by omega
   have hd1:D≠n0+1:=by omega
   have hd2:D≠n0+1+1:=by omega
   have c1:=(putObj_box hd0 HL.out (.deferred none)).cell;have c2:=(putObj_box hd1 HBB.out (.deferred none)).cell;have c3:=(putObj_box hd2 HE.out (.deferred none)).cell
   exact ⟨_,results_box c1 c2 c3,rfl,by rw [hn0];exact hB.trans (belowK_b (w:=w) hwn _ D _ _ (by omega) HK.out rfl rfl)⟩
  ·rw [List.dropLast_concat] at hrow hbe
   rw [List.getLast?_concat] at hbb
   have hrun:runHead (itL s.data.toList 0) ([],false)=some ((stOf pre0).1,(stOf pre0).2,x.1.2):=by
    obtain ⟨r,hr⟩:=hSp
    rw [← hr,List.map_append,List.append_assoc,run_good hg,List.map_singleton]
    show runHead ((x.1.1.data.toList,x.1.2)::r) _=_
    rw [runHead,if_pos hx]
   have hat:2≤x.1.2:=by
    obtain ⟨r,hr⟩:=hSp
    exact itL_two _ _ _ (Nat.le_refl _) (x.1.1.data.toList,x.1.2) (by rw [← hr,List.map_append,List.map_singleton];simp [LineAt.pair])
   have hgl:=good_len hg
   have hgv:=good_vals hg
   have hpl:pre0.length≤10000:=by
    obtain ⟨r,hr⟩:=hSp
    have h1:=itL_count _ s.data.toList 0 (Nat.le_refl _)
    rw [← hr,List.length_append,List.length_map,List.length_append,show s.data.toList.length=s.size from rfl] at h1;omega
   generalize hst:stOf pre0=st at *
   obtain ⟨F,L⟩:=st
   obtain ⟨⟨p,at_⟩,hp⟩:=x
   dsimp only at hrow hbe hbb hrun hat hgl hgv hp
   replace hbb:Boxed W (n0+1) 3 (.int .i64 at_):=hbb
   have hcl:=hbl.cell;have hcb:=hbb.cell;have hce:=hbe.cell
   have hfl:=hbl.frozen;have hfb:=hbb.frozen;have hfe:=hbe.frozen
   have HK:=Lib.hid hK
   have HL:=Lib.hid hbl;have HBB:=Lib.hid hbb;have HR:=Lib.hid hrun;clear hbl hbb hK hrun hst hx hg hSp hce hfe
   cases L
   ·replace hbe:Boxed W (n0+1+1) 27 (.int .i64 0):=hbe
    have hce:=hbe.cell;have hfe:=hbe.frozen
    have HE:=Lib.hid hbe;clear hbe
    have hform:splitL s.data.toList=.ok (F.map fun p=>(p.1,trimB p.2)) at_:=by unfold splitL;rw [HR.out]
    have HFo:=Lib.hid hform;clear hform
    obtain ⟨a0,cap0,rfl,ha0⟩:∃ a0 cap0,v=.slice a0 F.length cap0∧(F.length=0∨∃ g,a0=some ⟨g,0,none⟩∧n0≤g∧F.length≤cap0):=by
     rcases row_form hrow with ⟨h,h0⟩ | ⟨g,cap,h,h1,_,h2⟩
     ·exact ⟨none,0,by rw [h,h0],.inl h0⟩
     ·exact ⟨_,_,h,.inr ⟨g,rfl,h1,h2⟩⟩
    obtain ⟨n,hn⟩:∃ n,F.length=n:=⟨_,rfl⟩
    rw [hn] at HL hcl hrow ha0 hgl
    have HN:=Lib.hid hn;have HA:=Lib.hid ha0;clear hn ha0
    gi_wp2
    go_wp2
    go_loopw [10,79] (fun _ i wr=>∃ k:Nat,i=.int .i64 k∧k≤n∧Hid (Boxed wr n0 23 (.slice a0 n cap0))∧Hid (Boxed wr (n0+1) 3 (.int .i64 at_))∧Hid (Boxed wr (n0+1+1) 27 (.int .i64 0))∧Hid (wr.ownsRow n0 56 2 (.slice a0 n cap0) n (fldCells ((F.take k).map (fun p=>(p.1,trimB p.2))++F.drop k)))∧Below n0 w wr∧Hid (wr.heap[D]? =some (.deferred (some []))))
     (fun _ i _=>n - (intOf i).toNat)
    case atStart=>exact ⟨0,rfl,Nat.zero_le _,HL,HBB,HE,Lib.hid (by simpa using hrow),hB,HK⟩
    case round =>
     clear hcl hcb hce hfl hfb hfe hrow HL HBB HE hB
     obtain ⟨k,rfl,hk,HL,HBB,HE,HROW,hB,HKr⟩:=hrel
     have hcl:=HL.out.cell;have hcb:=HBB.out.cell;have hce:=HE.out.cell
     have hfl:=HL.out.frozen;have hfb:=HBB.out.frozen;have hfe:=HE.out.frozen
     by_cases hlt:k<n
     ·obtain ⟨g,rfl,hg0,hcap⟩:∃ g,a0=some ⟨g,0,none⟩∧n0≤g∧n≤cap0:=HA.out.resolve_left (by omega)
      have hkF:k<F.length:=by rw [HN.out];exact hlt
      obtain ⟨q,hq⟩:∃ q,F[k]=q:=⟨_,rfl⟩
      have hmix:fldCells ((F.take k).map (fun p=>(p.1,trimB p.2))++F.drop k)=fldCells ((F.take k).map (fun p=>(p.1,trimB p.2)))++([.string ⟨q.1.toArray⟩,.string ⟨q.2.toArray⟩]++fldCells (F.drop (k+1))):=by
       rw [List.drop_eq_getElem_cons hkF,hq];simp [fldCells]
      have hml:(fldCells ((F.take k).map (fun p=>(p.1,trimB p.2)))).length=k * 2:=by rw [fldCells_len,List.length_map,List.length_take];omega
      have hrow:=HROW.out
      rw [hmix] at hrow
      have hcell:=hrow.cellAt (k * 2+1) (by omega)
      rw [List.getElem?_append_right (by omega),hml,show k * 2+1 - k * 2=1 by omega] at hcell
      have hcell':wr.cell? ⟨g,k * 2+1,none⟩=some (.string ⟨q.2.toArray⟩):=hcell
      have hfro:=hrow.frozenAt (k * 2+1)
      have HRW:=Lib.hid hrow
      have hqv:=hgv q (by rw [← hq];exact List.getElem_mem _)
      have hqs:(ByteArray.mk q.2.toArray).size≤1000000000:=by show q.2.length≤_;omega
      have hne1:n0≠g:=fun e=>HL.out.not_row (by decide) HROW.out (by rw [e];rfl)
      have hne2:n0+1≠g:=fun e=>HBB.out.not_row (by decide) HROW.out (by rw [e];rfl)
      have hne3:n0+1+1≠g:=fun e=>HE.out.not_row (by decide) HROW.out (by rw [e];rfl)
      have HML:=Lib.hid hml;have HKF:=Lib.hid hkF;have HQ:=Lib.hid hq
      clear hcell hrow hmix hml hq
      have hki:(k:Int)<(n:Int):=by omega
      go_wp2
      have hglt:g<wr.heap.size:=World.block_lt_of_cell? wr _ hcell'
      have hclq:=fun d os=>cell_regrown hcl d os
      have hcgq:=fun d os=>cell_regrown hcell' d os
      (refine region_quiet_tail_below 8 (by kernel_rfl) (by kernel_rfl) ?_;simp only [List.take_succ_cons,List.take_zero];(repeat (first | go_big_quiet_skip | (go_big_quiet_want;go_big_quiet_op;first | go_big_quiet_on | (apply Exists.intro;refine ⟨fun _=>?_,?_⟩;(· (go_at_call 40;exact ret_quiet (trim_octet _ · hqs)));go_big_quiet_on))));refine wpQuiet_nil ?_;intro wq hbq;simp only [List.drop_succ_cons,List.drop_zero])
      have hcg5:=(hbq.cell (p:=⟨g,k * 2+1,none⟩) hglt).trans hcell'
      have hfg5:=(hbq.frozen (p:=⟨g,k * 2+1,none⟩) hglt).trans hfro
      have hL5:=(hbq.block _ HL.out.lt).trans HL.out
      have hB5:=(hbq.block _ HBB.out.lt).trans HBB.out
      have hE5:=(hbq.block _ HE.out.lt).trans HE.out
      have hK5:=(hbq.block D (Array.getElem?_eq_some_iff.1 HKr.out).1).trans HKr.out
      have hR5:=(own_below HRW.out hbq).stored (k * 2+1) (.string ⟨(trimB q.2).toArray⟩)
      have hR6:=Lib.hid hR5.1
      have HL5:=Lib.hid hL5;have HB5:=Lib.hid hB5;have HE5:=Lib.hid hE5;have HK5:=Lib.hid hK5
      have hbel:=(hB.trans (hbq.mono (Nat.le_trans hwn hB.size))).setCell (p:=⟨g,k * 2+1,none⟩) hg0 (.string ⟨(trimB q.2).toArray⟩)
      have HBel:=Lib.hid hbel
      clear hclq hcgq hL5 hB5 hE5 hK5 hR5 hbel hcl hcb hce hfl hfb hfe hcell' hfro
      go_wp2
      go_roundw
      case rel =>
       refine ⟨k+1,by go_num,by omega,Lib.hid ((Below.heap_setCell _ _ _ _ hne1).trans HL5.out),Lib.hid ((Below.heap_setCell _ _ _ _ hne2).trans HB5.out),Lib.hid ((Below.heap_setCell _ _ _ _ hne3).trans HE5.out),Lib.hid ?_,HBel.out,Lib.hid ((Below.heap_setCell _ _ _ _ ?_).trans HK5.out)⟩
       ·have h:=hR6.out
        have e:(fldCells ((F.take k).map (fun p:Fld=>(p.1,trimB p.2)))++([Value.string ⟨q.1.toArray⟩,Value.string ⟨q.2.toArray⟩]++fldCells (F.drop (k+1)))).set (k * 2+1) (Value.string ⟨(trimB q.2).toArray⟩)=fldCells ((F.take (k+1)).map (fun p:Fld=>(p.1,trimB p.2))++F.drop (k+1)):=by
         rw [List.set_append_right _ _ (by rw [HML.out];omega),HML.out,show k * 2+1 - k * 2=1 by omega,List.take_succ_eq_append_getElem HKF.out,HQ.out]
         simp [fldCells]
        rw [e] at h
        exact h
       ·intro e
        subst e
        have h:=HKr.out
        have h2:=HRW.out
        rcases h2.2 with ⟨h',_⟩ | ⟨g',cap',cur,h',_,hh,_⟩
        ·simp at h'
        ·simp only [Value.slice.injEq,Option.some.injEq,Addr.mk.injEq,and_true,true_and] at h'
         rw [← h'.1,h] at hh;cases hh
      case measure=>simp [intOf];omega
     ·obtain rfl:k=n:=by omega
      go_wp2
      go_region
      all_goals
       go_wp2
       rw [HFo.out]
       have hK2:=(((KeepsOthers.setCell wr ⟨n0,0,none⟩ (.slice a0 k cap0)).trans (KeepsOthers.setCell _ ⟨n0+1,0,none⟩ (.int .i64 at_))).trans (KeepsOthers.setCell _ ⟨n0+1+1,0,none⟩ (.int .i64 0))).same D _ HKr.out rfl
       have h1:=(((HL.out.set (.slice a0 k cap0)).other (show n0≠n0+1 by omega) (.int .i64 at_)).other (show n0≠n0+1+1 by omega) (.int .i64 0))
       have h2:=(((HBB.out.other (show n0+1≠n0 by omega) (.slice a0 k cap0)).set (.int .i64 at_)).other (show n0+1≠n0+1+1 by omega) (.int .i64 0))
       have h3:=(((HE.out.other (show n0+1+1≠n0 by omega) (.slice a0 k cap0)).other (show n0+1+1≠n0+1 by omega) (.int .i64 at_)).set (.int .i64 0))
       have h4:=((hB.setCell (p:=⟨n0,0,none⟩) (Nat.le_refl _) (.slice a0 k cap0)).setCell (p:=⟨n0+1,0,none⟩) (by simp) (.int .i64 at_)).setCell (p:=⟨n0+1+1,0,none⟩) (by simp;omega) (.int .i64 0)
       have hr1:=row_set HL.out (by decide) HROW.out (.slice a0 k cap0)
       have hr2:=row_set (HBB.out.other (show n0+1≠n0 by omega) (.slice a0 k cap0)) (by decide) hr1 (.int .i64 at_)
       have hr3:=row_set ((HE.out.other (show n0+1+1≠n0 by omega) (.slice a0 k cap0)).other (show n0+1+1≠n0+1 by omega) (.int .i64 at_)) (by decide) hr2 (.int .i64 0)
       have hr4:=ownsRow_putObj hr3 (.deferred none) hK2 rfl
       rw [List.take_of_length_le (by rw [HN.out];exact Nat.le_refl _),List.drop_of_length_le (by rw [HN.out];exact Nat.le_refl _),List.append_nil] at hr4
       refine ⟨by simp,.inl ⟨_,_,rfl,run_takeDeferred hK2,?_⟩⟩
       have hd0:D≠n0:=by omega
       have hd1:D≠n0+1:=by omega
       have hd2:D≠n0+1+1:=by omega
       have c1:=(putObj_box hd0 h1 (.deferred none)).cell;have c2:=(putObj_box hd1 h2 (.deferred none)).cell;have c3:=(putObj_box hd2 h3 (.deferred none)).cell
       exact ⟨_,results_box c1 c2 c3,_,rfl,by rw [hn0,List.length_map,HN.out];exact hr4,by rw [hn0];exact (h4.drew).trans (belowK_b (w:=w) hwn _ D _ _ (by omega) hK2 rfl rfl)⟩
   ·replace hbe:Boxed W (n0+1+1) 27 (.int .i64 6):=hbe
    have hce:=hbe.cell;have hfe:=hbe.frozen
    have HE:=Lib.hid hbe;clear hbe
    have hform:splitL s.data.toList=.long:=by unfold splitL;rw [HR.out]
    have HFo:=Lib.hid hform;clear hform
    gi_wp2
    go_wp2
    go_region
    all_goals
     go_wp2
     rw [HFo.out]
     have hK2:=(((KeepsOthers.setCell W ⟨n0,0,none⟩ (.slice none 0 0)).trans (KeepsOthers.setCell _ ⟨n0+1,0,none⟩ (.int .i64 0))).trans (KeepsOthers.setCell _ ⟨n0+1+1,0,none⟩ (.int .i64 6))).same D _ HK.out rfl
     have h1:=(((HL.out.set (.slice none 0 0)).other (show n0≠n0+1 by omega) (.int .i64 0)).other (show n0≠n0+1+1 by omega) (.int .i64 6))
     have h2:=(((HBB.out.other (show n0+1≠n0 by omega) (.slice none 0 0)).set (.int .i64 0)).other (show n0+1≠n0+1+1 by omega) (.int .i64 6))
     have h3:=(((HE.out.other (show n0+1+1≠n0 by omega) (.slice none 0 0)).other (show n0+1+1≠n0+1 by omega) (.int .i64 0)).set (.int .i64 6))
     have h4:=((hB.setCell (p:=⟨n0,0,none⟩) (Nat.le_refl _) (.slice none 0 0)).setCell (p:=⟨n0+1,0,none⟩) (by simp) (.int .i64 0)).setCell (p:=⟨n0+1+1,0,none⟩) (by simp;omega) (.int .i64 6)
     refine ⟨by simp,.inl ⟨_,_,rfl,run_takeDeferred hK2,?_⟩⟩
     have hd0:D≠n0:=by omega
     have hd1:D≠n0+1:=by omega
     have hd2:D≠n0+1+1:=by omega
     have c1:=(putObj_box hd0 h1 (.deferred none)).cell;have c2:=(putObj_box hd1 h2 (.deferred none)).cell;have c3:=(putObj_box hd2 h3 (.deferred none)).cell
     exact ⟨_,results_box c1 c2 c3,rfl,by rw [hn0];exact (h4.drew).trans (belowK_b (w:=w) hwn _ D _ _ (by omega) hK2 rfl rfl)⟩
end Go.Proofs.YtmpiobfdchlikaaDoor
end
section
set_option synthInstance.maxSize 4000
namespace Nun
open Go Go.RowKit
theorem grown_of_below {w w':World} (h:Below w.heap.size w w') (r:Option Nat):w.grownBy w' r:=⟨h.os,h.tape,h.output,h.size,fun k hk _=>h.block k hk⟩
theorem grown_below {w w':World} {R B:Nat} (h:w.grownBy w' (some R)) (hR:B≤R) (hB:B≤w.heap.size):Below B w w':=⟨h.os,h.tape,h.output,h.size,fun k hk=>h.block k (by omega) (by intro e;cases e;omega)⟩
theorem mk_list (s:ByteArray):(⟨s.data.toList.toArray⟩:ByteArray)=s:=by
 apply ByteArray.ext;apply Array.ext';rfl
theorem ne_empty {s:ByteArray} (h:0<s.size):s.data.toList.isEmpty=false:=by
 rcases hd:s.data.toList with _ | ⟨c,l⟩
 ·have:s.size=0:=congrArg List.length hd
  omega
 ·rfl
end Nun
namespace Go.Proofs.YtmpiobfdchlikaaDoor
open Go Go.RowKit Nun
set_option maxHeartbeats 1000000 in
theorem blanks_head (R:Nat) (l:List UInt8) (w:World) (hb:Boxed w R 95 (.string ⟨l.toArray⟩)) (t:List UInt8) (ht:l.dropWhile blankC=t) :
 Calls Tryd.prog 54 #[.pointer (some ⟨R,0,none⟩)] w fun e w'=>e=.returned (.tuple #[])∧Boxed w' R 95 (.string ⟨t.toArray⟩)∧w.grownBy w' (some R):=by
 obtain ⟨s,hs⟩:∃ s:ByteArray,(⟨l.toArray⟩:ByteArray)=s:=⟨_,rfl⟩
 have h:=Any.strings_TrimLeft_laid Tryd.lays161 (by kernel_rfl) s ⟨#[32,9]⟩ w (by decide) (ascii_of_all (by decide))
 rw [show (ByteArray.mk #[32,9]).data.toList=[32,9] from rfl,trimLeftS_blank,← hs,show (ByteArray.mk l.toArray).data.toList=l from rfl,ht,hs] at h
 rw [hs] at hb
 obtain ⟨u,hu⟩:∃ u:ByteArray,(⟨t.toArray⟩:ByteArray)=u:=⟨_,rfl⟩
 rw [hu] at h ⊢
 have H:=Lib.hid h
 have hc:=hb.cell;have hf:=hb.frozen
 clear h hs ht hu
 go_enter Tryd.func54,Tryd.ntmps54
 go_wp2_with (go_at_call 75;refine H.out.mono ?_;rintro e w1 ⟨rfl,hb1⟩;have hbx1:=(hb1.block _ hb.lt).trans hb;have hc1:=Boxed.cell hbx1;have hf1:=Boxed.frozen hbx1)
 go_end0
 exact ⟨rfl,Boxed.set _ hbx1,(grown_of_below hb1 _).trans (grownBy_setCell' _ _ _)⟩
set_option maxHeartbeats 1000000 in
theorem sign_head (R:Nat) (c:UInt8) (l:List UInt8) (w:World) (hl:l.length≤1000000) (hb:Boxed w R 95 (.string ⟨l.toArray⟩)) (o:Option (List UInt8)) (ho:signL c l=o) :
 Calls Tryd.prog 56 #[.pointer (some ⟨R,0,none⟩),.int .u8 c.toNat] w fun e w'=>e=.returned (.bool o.isSome)∧Boxed w' R 95 (.string ⟨(o.getD l).toArray⟩)∧w.grownBy w' (some R):=by
 have hc:=hb.cell;have hf:=hb.frozen
 rcases l with _ | ⟨d,t⟩
 ·subst ho
  go_enter Tryd.func56,Tryd.ntmps56
  go_wp2
  go_ret
  exact ⟨rfl,hb,World.grownBy.refl _ _⟩
 ·rw [List.length_cons] at hl
  obtain ⟨s,hs⟩:∃ s:ByteArray,(⟨(d::t).toArray⟩:ByteArray)=s:=⟨_,rfl⟩
  have hsz:s.size=t.length+1:=by rw [← hs];rfl
  have hpos:0<s.size:=by omega
  have hd:s[0]=d:=by subst hs;rfl
  have htl:s.extract 1 s.size=⟨t.toArray⟩:=by
   apply ByteArray.ext;apply Array.ext'
   rw [Lib.extract_data,← hs];simp [ByteArray.size]
  by_cases hdc:d=c
  ·obtain rfl:o=some t:=by rw [← ho,signL,if_pos hdc]
   have hq:((s[0].toNat:Int) != (c.toNat:Int))=false:=by rw [hd,hdc];simp
   rw [hs] at hb hc
   have hb2:=Boxed.set (.string (s.extract 1 s.size)) hb
   rw [htl] at hb2
   have HB:=Lib.hid hb2
   have HS:=Lib.hid htl
   rw [← hsz] at hl
   clear hb2 hs hd htl ho hsz
   have hne:s.toList.isEmpty=false:=by rw [Lib.toList_data];exact ne_empty hpos
   go_enter Tryd.func56,Tryd.ntmps56
   go_wp2
   go_ret
   rw [HS.out]
   exact ⟨rfl,HB.out,grownBy_setCell' _ _ _⟩
  ·obtain rfl:o=none:=by rw [← ho,signL,if_neg hdc]
   have hq:((s[0].toNat:Int) != (c.toNat:Int))=true:=by
    rw [hd,bne_iff_ne];intro h;exact hdc (UInt8.toNat_inj.1 (by omega))
   have HB:=Lib.hid hb
   rw [hs] at hb hc
   rw [← hsz] at hl
   clear hs hd htl ho hsz
   have hne:s.toList.isEmpty=false:=by rw [Lib.toList_data];exact ne_empty hpos
   go_enter Tryd.func56,Tryd.ntmps56
   go_wp2
   go_ret
   exact ⟨rfl,HB.out,World.grownBy.refl _ _⟩
theorem index_of (c:UInt8) (b:Bool) (h:decide (Go.Lib.indexByte [59,61,34,92] c<0)=b) (w:World) :
 Calls Tryd.prog 43 #[.string ⟨#[59,61,34,92]⟩,.int .u8 c.toNat] w fun e w'=>∃ n:Int,e=.returned (.int .i64 n)∧decide (n<0)=b∧w'=w:=by
 refine (Tryd.strings_IndexByte ⟨#[59,61,34,92]⟩ c.toNat w).mono ?_
 rintro e w' ⟨rfl,rfl⟩
 refine ⟨_,rfl,?_,rfl⟩
 rw [show ((c.toNat:Int).toNat).toUInt8=c by simp]
 exact h
set_option maxHeartbeats 2000000 in
set_option maxRecDepth 100000 in
theorem run_head (R:Nat) (l:List UInt8) (w:World) (hl:l.length≤1000000) (hb:Boxed w R 95 (.string ⟨l.toArray⟩)) (t r:List UInt8) (ht:l.takeWhile plainC=t) (hr:l.dropWhile plainC=r) :
 Calls Tryd.prog 55 #[.pointer (some ⟨R,0,none⟩)] w fun e w'=>e=.returned (.string ⟨t.toArray⟩)∧Boxed w' R 95 (.string ⟨r.toArray⟩)∧w.grownBy w' (some R):=by
 obtain ⟨s,hs⟩:∃ s:ByteArray,(⟨l.toArray⟩:ByteArray)=s:=⟨_,rfl⟩
 have hls:s.data.toList=l:=by rw [← hs]
 have hsz:s.size=l.length:=by rw [← hs];rfl
 rw [hs] at hb
 rw [← hls] at ht hr
 have HT:=Lib.hid ht;have HR:=Lib.hid hr
 have hc:=hb.cell;have hf:=hb.frozen
 rw [← hsz] at hl
 clear hs hls hsz ht hr
 go_enter Tryd.func55,Tryd.ntmps55
 go_wp2
 go_loopw [3] (fun i w4=>∃ k:Nat,i=.int .i64 k∧k≤s.size∧w4=w∧Hid (∀ j (h:j<s.data.toList.length),j<k→plainC s.data.toList[j]=true)) (fun i _=>s.size - (intOf i).toNat)
 case atStart=>exact ⟨0,rfl,Nat.zero_le _,rfl,Lib.hid (fun j _ h=>absurd h (Nat.not_lt_zero _))⟩
 case round =>
  obtain ⟨k,rfl,hk,rfl,hall⟩:=hrel
  have hend:(∀ h:k<s.data.toList.length,plainC s.data.toList[k]=false)→s.extract 0 k=⟨t.toArray⟩∧s.extract k s.size=⟨r.toArray⟩:=by
   intro h
   obtain ⟨h1,h2⟩:=take_drop_while plainC s.data.toList k hall.out h hk
   rw [HT.out] at h1;rw [HR.out] at h2
   constructor
   ·apply ByteArray.ext;apply Array.ext'
    rw [Lib.extract_data,List.drop_zero,Nat.sub_zero,h1]
   ·apply ByteArray.ext;apply Array.ext'
    rw [Lib.extract_data,List.take_of_length_le (by rw [List.length_drop];exact Nat.le_refl _),h2]
  have HEND:=Lib.hid hend;clear hend
  by_cases hlt:k<s.size
  ·have hps:=plain_split s[k]
   have hki:(k:Int)<(s.size:Int):=by omega
   have hmore:plainC s[k]=true→Hid (∀ j (h:j<s.data.toList.length),j<k+1→plainC s.data.toList[j]=true):=fun hp=>Lib.hid (fun j h hj=>by
    rcases Nat.lt_or_ge j k with h2 | h2
    ·exact hall.out j h h2
    ·obtain rfl:j=k:=by omega
     exact hp)
   have HM:=Lib.hid hmore;clear hmore
   have hstop:plainC s[k]=false→s.extract 0 k=⟨t.toArray⟩∧s.extract k s.size=⟨r.toArray⟩:=fun hp=>HEND.out (fun _=>hp)
   have HS:=Lib.hid hstop;clear hstop HEND
   rcases hA:decide ((s[k].toNat:Int) > 32) with _ | _
   ·rw [hA] at hps
    obtain ⟨e1,e2⟩:=HS.out hps
    have HE1:=Lib.hid e1;have HE2:=Lib.hid e2
    replace hA:¬ ((s[k].toNat:Int) > 32):=of_decide_eq_false hA
    clear hps e1 e2
    go_wp2
    go_ret
    rw [HE1.out,HE2.out]
    exact ⟨rfl,Boxed.set _ hb,grownBy_setCell' _ _ _⟩
   ·rcases hB:decide ((s[k].toNat:Int)<127) with _ | _
    ·rw [hA,hB] at hps
     obtain ⟨e1,e2⟩:=HS.out hps
     have HE1:=Lib.hid e1;have HE2:=Lib.hid e2
     replace hA:((s[k].toNat:Int) > 32):=of_decide_eq_true hA
     replace hB:¬ ((s[k].toNat:Int)<127):=of_decide_eq_false hB
     clear hps e1 e2
     go_wp2
     go_ret
     rw [HE1.out,HE2.out]
     exact ⟨rfl,Boxed.set _ hb,grownBy_setCell' _ _ _⟩
    ·rcases hC:decide (Go.Lib.indexByte [59,61,34,92] s[k]<0) with _ | _
     ·rw [hA,hB,hC] at hps
      obtain ⟨e1,e2⟩:=HS.out hps
      have HE1:=Lib.hid e1;have HE2:=Lib.hid e2;have HC:=Lib.hid hC
      replace hA:((s[k].toNat:Int) > 32):=of_decide_eq_true hA
      replace hB:((s[k].toNat:Int)<127):=of_decide_eq_true hB
      clear hps e1 e2 hC
      go_wp2_with (go_at_call 43;refine (index_of s[k] false HC.out _).mono ?_;rintro e w1 ⟨n,rfl,hn,rfl⟩;replace hn:=of_decide_eq_false hn)
      go_ret
      rw [HE1.out,HE2.out]
      exact ⟨rfl,Boxed.set _ hb,grownBy_setCell' _ _ _⟩
     ·rw [hA,hB,hC] at hps
      have HMM:=HM.out hps
      have HC:=Lib.hid hC
      replace hA:((s[k].toNat:Int) > 32):=of_decide_eq_true hA
      replace hB:((s[k].toNat:Int)<127):=of_decide_eq_true hB
      clear hps hC
      go_wp2_with (go_at_call 43;refine (index_of s[k] true HC.out _).mono ?_;rintro e w1 ⟨n,rfl,hn,rfl⟩;replace hn:=of_decide_eq_true hn)
      go_roundw
      case rel=>exact ⟨k+1,by go_num,by omega,trivial,HMM⟩
      case measure=>simp [intOf];omega
  ·have hki:¬ (k:Int)<(s.size:Int):=by omega
   have hk2:(k:Int)≤(s.size:Int):=by omega
   obtain ⟨e1,e2⟩:=HEND.out (fun h=>absurd h hlt)
   have HE1:=Lib.hid e1;have HE2:=Lib.hid e2
   clear e1 e2
   go_wp2
   go_ret
   rw [HE1.out,HE2.out]
   exact ⟨rfl,Boxed.set _ hb,grownBy_setCell' _ _ _⟩
end Go.Proofs.YtmpiobfdchlikaaDoor
end
section
set_option synthInstance.maxSize 4000
namespace Nun
open Go Go.RowKit
def quoteD (l:List UInt8) (k:Nat):Option (List UInt8 × List UInt8):=quotedL (l.length - k+1) (l.drop k)
theorem quoteD_zero (l:List UInt8):quoteD l 0=quotedL (l.length+1) l:=by simp [quoteD]
theorem quoteD_end (l:List UInt8) (k:Nat) (h:l.length≤k):quoteD l k=none:=by
 unfold quoteD;rw [List.drop_of_length_le h];rfl
theorem quoteD_cons (l:List UInt8) (k:Nat) (h:k<l.length):quoteD l k=if l[k]=34 then some ([],l.drop (k+1)) else if l[k]<32∨126<l[k] then none else if l[k]=92 then (match l[k+1]? with
 | none=>none
 | some d=>if d=34∨d=92 then (quoteD l (k+2)).map fun p=>(d::p.1,p.2) else none)
 else (quoteD l (k+1)).map fun p=>(l[k]::p.1,p.2):=by
 unfold quoteD
 rw [List.drop_eq_getElem_cons h]
 conv=>lhs;unfold quotedL
 rw [show l.length - k=l.length - (k+1)+1 by omega]
 by_cases h1:k+1<l.length
 ·rw [List.drop_eq_getElem_cons h1,List.getElem?_eq_getElem h1]
  dsimp only
  rw [quotedL_more (l.length - (k+1)+1) (l.length - (k+2)+1) (l.drop (k+1+1)) (by rw [List.length_drop];omega) (by rw [List.length_drop];omega)]
 ·rw [List.getElem?_eq_none (by omega),List.drop_of_length_le (show l.length≤k+1 by omega)]
theorem b34:∀ c:UInt8,c=34→((c.toNat:Int) == 34)=true:=by decide +kernel
theorem b34n:∀ c:UInt8,¬ c=34→((c.toNat:Int) == 34)=false:=by decide +kernel
theorem b34m:∀ c:UInt8,¬ c=34→((c.toNat:Int) != 34)=true:=by decide +kernel
theorem b34o:∀ c:UInt8,c=34→((c.toNat:Int) != 34)=false:=by decide +kernel
theorem b92:∀ c:UInt8,c=92→((c.toNat:Int) == 92)=true:=by decide +kernel
theorem b92n:∀ c:UInt8,¬ c=92→((c.toNat:Int) == 92)=false:=by decide +kernel
theorem b92m:∀ c:UInt8,¬ c=92→((c.toNat:Int) != 92)=true:=by decide +kernel
theorem b92o:∀ c:UInt8,c=92→((c.toNat:Int) != 92)=false:=by decide +kernel
theorem b32:∀ c:UInt8,c<32→(c.toNat:Int)<32:=by decide +kernel
theorem b32n:∀ c:UInt8,¬ c<32→¬ (c.toNat:Int)<32:=by decide +kernel
theorem b126:∀ c:UInt8,126<c→(c.toNat:Int) > 126:=by decide +kernel
theorem b126n:∀ c:UInt8,¬ 126<c→¬ (c.toNat:Int) > 126:=by decide +kernel
end Nun
namespace Go.Proofs.YtmpiobfdchlikaaDoor
open Go Go.RowKit Nun
def quotedV (R:Nat) (w:World):Option (List UInt8 × List UInt8)→Ending→World→Prop
 | none,e,w'=>e=.returned (.tuple #[.string ⟨#[]⟩,.bool false])∧w.grownBy w' (some R)
 | some (v,r),e,w'=>e=.returned (.tuple #[.string ⟨v.toArray⟩,.bool true])∧Boxed w' R 95 (.string ⟨r.toArray⟩)∧w.grownBy w' (some R)
theorem grown_end {w wr:World} {R:Nat} (h:Below w.heap.size w wr):w.grownBy wr (some R):=grown_of_below h _
set_option maxHeartbeats 2000000 in
set_option maxRecDepth 100000 in
theorem quoted_head (R:Nat) (l:List UInt8) (w:World) (hl:l.length≤1000000) (hb:Boxed w R 95 (.string ⟨l.toArray⟩)) (Q:Option (List UInt8 × List UInt8)) (hQ:quotedL (l.length+1) l=Q) :
 Calls Tryd.prog 76 #[.pointer (some ⟨R,0,none⟩)] w (quotedV R w Q):=by
 obtain ⟨s,hs⟩:∃ s:ByteArray,(⟨l.toArray⟩:ByteArray)=s:=⟨_,rfl⟩
 have hls:s.data.toList=l:=by rw [← hs]
 have hsz:s.size=l.length:=by rw [← hs];rfl
 rw [hs] at hb
 rw [← quoteD_zero,← hls] at hQ
 have HQ:=Lib.hid hQ
 have hRl:=hb.lt
 have hfz:=hb.frozen
 rw [← hsz] at hl
 clear hs hls hsz hQ
 go_enter Tryd.func76,Tryd.ntmps76
 go_wp2
 go_step3
 go_wp2
 go_step3
 go_wp2
 go_loopw [4,5,6,20,23,30] (fun v i _ _ _ _ wr=>∃ (k:Nat) (acc:List UInt8),i=.int .i64 k∧k≤s.size∧acc.length≤k∧OwnB w.heap.size 5 v acc wr∧Below w.heap.size w wr∧Hid (Q=(quoteD s.data.toList k).map fun p=>(acc++p.1,p.2)))
  (fun _ i _ _ _ _ _=>s.size - (intOf i).toNat)
 case atStart=>exact ⟨0,[],rfl,Nat.zero_le _,Nat.le_refl _,OwnB.nil _ _ _,Below.refl _ _,Lib.hid (by rw [HQ.out];simp)⟩
 case round =>
  obtain ⟨k,acc,rfl,hk,hal,hown,hbel,hq⟩:=hrel
  have hbr:Boxed wr R 95 (.string s):=(hbel.block _ hRl).trans hb
  have hcr:=hbr.cell;have hfr:=hbr.frozen
  have HBR:=Lib.hid hbr;clear hbr
  by_cases hlt:k<s.size
  ·have hki:(k:Int)<(s.size:Int):=by omega
   have hkn:((k:Int) == (s.size:Int))=false:=by rw [beq_eq_false_iff_ne];omega
   have hq2:=hq.out
   rw [quoteD_cons _ k hlt] at hq2
   have hgs:s.data.toList[k]=s[k]:=rfl
   simp only [hgs] at hq2
   by_cases h34:s[k]=34
   ·rw [if_pos h34] at hq2
    have hx:=b34 _ h34
    have HF:=Lib.hid hq2
    have hw1:IntKind.i64.wrap ((k:Int)+1)=(k:Int)+1:=IntWalk.i64_in _ (by omega)
    have hw2:(0:Int)≤(k:Int)+1:=by omega
    have hw3:((k:Int)+1).toNat=k+1:=by omega
    have kc:=conv_own (P:=Tryd.prog) Tryd.underlying73 Tryd.underlying5 Tryd.underlying9 (World.ownsRow.kept hown (grownBy_setCell' wr R (.string (s.extract (k+1) s.size))) (.inr (fun e=>by have:=(World.ownsRow.lt hown R e).1;omega)))
    have HSET:=Lib.hid (Boxed.set (.string (s.extract (k+1) s.size)) HBR.out)
    clear hq2 h34
    go_wp2
    go_ret2
    rw [HF.out]
    refine ⟨?_,?_,(grown_end hbel).trans (grownBy_setCell' _ _ _)⟩
    ·simp
    ·have e:s.extract (k+1) s.size=⟨(s.data.toList.drop (k+1)).toArray⟩:=by
      apply ByteArray.ext;apply Array.ext'
      rw [Lib.extract_data,List.take_of_length_le (by rw [List.length_drop];exact Nat.le_refl _)]
     have h:=HSET.out
     rw [e] at h ⊢
     exact h
   ·have hx:=b34n _ h34
    rw [if_neg h34] at hq2
    by_cases hbad:s[k]<32∨126<s[k]
    ·rw [if_pos hbad] at hq2
     have HF:=Lib.hid hq2
     clear hq2 h34
     rcases hbad with h | h
     ·have hy:=b32 _ h
      clear h
      go_wp2
      go_ret2
      rw [HF.out]
      exact ⟨rfl,grown_end hbel⟩
     ·have hy:=b126 _ h
      have hz:¬ (s[k].toNat:Int)<32:=by omega
      clear h
      go_wp2
      go_ret2
      rw [HF.out]
      exact ⟨rfl,grown_end hbel⟩
    ·rw [if_neg hbad] at hq2
     have hy:=b32n _ (fun h=>hbad (.inl h))
     have hz:=b126n _ (fun h=>hbad (.inr h))
     by_cases h92:s[k]=92
     ·rw [if_pos h92] at hq2
      have hu:=b92 _ h92
      have hw1:IntKind.i64.wrap ((k:Int)+1)=(k:Int)+1:=IntWalk.i64_in _ (by omega)
      by_cases hk1:k+1<s.size
      ·rw [List.getElem?_eq_getElem (show k+1<s.data.toList.length from hk1)] at hq2
       have hgs1:s.data.toList[k+1]=s[k+1]:=rfl
       simp only [hgs1] at hq2
       have hki1:(k:Int)+1<(s.size:Int):=by omega
       have hkn1:((k:Int)+1 == (s.size:Int))=false:=by rw [beq_eq_false_iff_ne];omega
       by_cases hd:s[k+1]=34∨s[k+1]=92
       ·rw [if_pos hd] at hq2
        have HF:=Lib.hid (show Q=(quoteD s.data.toList (k+2)).map fun p=>((acc++[s[k+1]])++p.1,p.2) by rw [hq2];simp [Function.comp_def])
        clear hq2 h34 hbad h92 hq
        rcases hd with h | h
        ·have hv:=b34o _ h
         clear h
         go_wp2_with (at_builtin;refine pushb (by rfl) _ _ _ (by rfl) 5 Tryd.underlying73 infoByte w.heap.size wr _ _ (by rfl) hown (s[k+1]) (by rfl) (by omega) hbel.size ?_;intro g cap w1 hg hown1 hgr hb1 hsz1)
         go_roundw
         case rel=>exact ⟨k+2,acc++[s[k+1]],by go_num,by omega,by simp;omega,hown1,hbel.trans hb1,HF⟩
         case measure=>simp [intOf];omega
        ·have hv:=b92o _ h
         have hv2:((s[k+1].toNat:Int) != 34)=true:=by rw [h];rfl
         clear h
         go_wp2_with (at_builtin;refine pushb (by rfl) _ _ _ (by rfl) 5 Tryd.underlying73 infoByte w.heap.size wr _ _ (by rfl) hown (s[k+1]) (by rfl) (by omega) hbel.size ?_;intro g cap w1 hg hown1 hgr hb1 hsz1)
         go_roundw
         case rel=>exact ⟨k+2,acc++[s[k+1]],by go_num,by omega,by simp;omega,hown1,hbel.trans hb1,HF⟩
         case measure=>simp [intOf];omega
       ·rw [if_neg hd] at hq2
        have HF:=Lib.hid hq2
        have hv:=b34m _ (fun h=>hd (.inl h))
        have hv2:=b92m _ (fun h=>hd (.inr h))
        clear hq2 h34 hbad h92 hd
        go_wp2
        go_ret2
        rw [HF.out]
        exact ⟨rfl,grown_end hbel⟩
      ·rw [List.getElem?_eq_none (show s.data.toList.length≤k+1 by show s.size≤_;omega)] at hq2
       have HF:=Lib.hid hq2
       have hkn1:((k:Int)+1 == (s.size:Int))=true:=by rw [beq_iff_eq];omega
       clear hq2 h34 hbad h92
       go_wp2
       go_ret2
       rw [HF.out]
       exact ⟨rfl,grown_end hbel⟩
     ·rw [if_neg h92] at hq2
      have hu:=b92n _ h92
      have HF:=Lib.hid (show Q=(quoteD s.data.toList (k+1)).map fun p=>((acc++[s[k]])++p.1,p.2) by rw [hq2];simp [Function.comp_def])
      clear hq2 h34 hbad h92 hq
      go_wp2_with (at_builtin;refine pushb (by rfl) _ _ _ (by rfl) 5 Tryd.underlying73 infoByte w.heap.size wr _ _ (by rfl) hown (s[k]) (by rfl) (by omega) hbel.size ?_;intro g cap w1 hg hown1 hgr hb1 hsz1)
      go_roundw
      case rel=>exact ⟨k+1,acc++[s[k]],by go_num,by omega,by simp;omega,hown1,hbel.trans hb1,HF⟩
      case measure=>simp [intOf];omega
  ·have hki:¬ (k:Int)<(s.size:Int):=by omega
   have hkn:((k:Int) == (s.size:Int))=true:=by rw [beq_iff_eq];omega
   have HF:=Lib.hid (show Q=none by rw [hq.out,quoteD_end _ _ (show s.data.toList.length≤k by show s.size≤_;omega)];rfl)
   go_wp2
   go_ret2
   rw [HF.out]
   exact ⟨rfl,grown_end hbel⟩
end Go.Proofs.YtmpiobfdchlikaaDoor
end
section
set_option synthInstance.maxSize 4000
namespace Nun
open Go Go.RowKit
def PairAt (w:World) (B t:Nat) (a b:ByteArray):Prop:=w.heap[B]? =some (.cells #[.string a,.string b] t (0,0))
theorem PairAt.lt {w:World} {B t:Nat} {a b:ByteArray} (h:PairAt w B t a b):B<w.heap.size:=(Array.getElem?_eq_some_iff.1 h).1
theorem PairAt.cell0 {w:World} {B t:Nat} {a b:ByteArray} (h:PairAt w B t a b):w.cell? ⟨B,0,none⟩=some (.string a):=by simp [World.cell?,show w.heap[B]? =_ from h]
theorem PairAt.cell1 {w:World} {B t:Nat} {a b:ByteArray} (h:PairAt w B t a b):w.cell? ⟨B,1,none⟩=some (.string b):=by simp [World.cell?,show w.heap[B]? =_ from h]
theorem PairAt.frozen0 {w:World} {B t:Nat} {a b:ByteArray} (h:PairAt w B t a b):w.frozen? ⟨B,0,none⟩=false:=by simp [World.frozen?,show w.heap[B]? =_ from h]
theorem PairAt.frozen1 {w:World} {B t:Nat} {a b:ByteArray} (h:PairAt w B t a b):w.frozen? ⟨B,1,none⟩=false:=by simp [World.frozen?,show w.heap[B]? =_ from h]
theorem PairAt.kept {w w':World} {B t:Nat} {a b:ByteArray} {r:Option Nat} (h:PairAt w B t a b) (k:w.grownBy w' r) (hne:some B≠r):PairAt w' B t a b:=(k.block B h.lt hne).trans h
theorem PairAt.set0 {w:World} {B t:Nat} {a b:ByteArray} (h:PairAt w B t a b) (c:ByteArray):PairAt (w.setCell ⟨B,0,none⟩ (.string c)) B t c b:=by
 obtain ⟨hlt,hk⟩:=Array.getElem?_eq_some_iff.1 h
 show (w.heap.modify B _)[B]? =_
 rw [Array.getElem?_eq_getElem (by rw [Array.size_modify];exact hlt),Array.getElem_modify_self,hk]
 rfl
theorem PairAt.set1 {w:World} {B t:Nat} {a b:ByteArray} (h:PairAt w B t a b) (c:ByteArray):PairAt (w.setCell ⟨B,1,none⟩ (.string c)) B t a c:=by
 obtain ⟨hlt,hk⟩:=Array.getElem?_eq_some_iff.1 h
 show (w.heap.modify B _)[B]? =_
 rw [Array.getElem?_eq_getElem (by rw [Array.size_modify];exact hlt),Array.getElem_modify_self,hk]
 rfl
theorem grown_set (w:World) (B k:Nat) (v:Value):w.grownBy (w.setCell ⟨B,k,none⟩ v) (some B):=by
 refine ⟨rfl,rfl,rfl,by simp,fun i hi hne=>?_⟩
 have hBi:B≠i:=fun e=>hne (by rw [e])
 show (w.heap.modify B _)[i]? =_
 rw [Array.getElem?_modify,if_neg hBi]
theorem grown_fresh {w w':World} {R B k:Nat} {v:Value} (h:w.grownBy w' (some R)) (hB:w.heap.size≤B):w.grownBy (w'.setCell ⟨B,k,none⟩ v) (some R) :=
 World.grownBy.andThen h (grown_set w' B k v) (fun j e=>by cases e;exact .inl hB)
theorem grown_drew {w w':World} {r:Option Nat} (h:w.grownBy w' r):w.grownBy w'.drew r:=⟨h.os,h.tape,h.output,h.size,h.block⟩
theorem PairAt.new (w:World) (t:Nat) (a b:ByteArray):PairAt (w.alloc (.cells #[.string a,.string b] t)) w.heap.size t a b:=World.alloc_heap_new w _
end Nun
namespace Go.Proofs.YtmpiobfdchlikaaDoor
open Go Go.RowKit Nun
theorem sign61 (R:Nat) (l:List UInt8) (w:World) (hl:l.length≤1000000) (hb:Boxed w R 95 (.string ⟨l.toArray⟩)) (o:Option (List UInt8)) (ho:signL 61 l=o) :
 Calls Tryd.prog 56 #[.pointer (some ⟨R,0,none⟩),.int .u8 61] w fun e w'=>e=.returned (.bool o.isSome)∧Boxed w' R 95 (.string ⟨(o.getD l).toArray⟩)∧w.grownBy w' (some R):=sign_head R 61 l w hl hb o ho
theorem sign34 (R:Nat) (l:List UInt8) (w:World) (hl:l.length≤1000000) (hb:Boxed w R 95 (.string ⟨l.toArray⟩)) (o:Option (List UInt8)) (ho:signL 34 l=o) :
 Calls Tryd.prog 56 #[.pointer (some ⟨R,0,none⟩),.int .u8 34] w fun e w'=>e=.returned (.bool o.isSome)∧Boxed w' R 95 (.string ⟨(o.getD l).toArray⟩)∧w.grownBy w' (some R):=sign_head R 34 l w hl hb o ho
theorem sign59 (R:Nat) (l:List UInt8) (w:World) (hl:l.length≤1000000) (hb:Boxed w R 95 (.string ⟨l.toArray⟩)) (o:Option (List UInt8)) (ho:signL 59 l=o) :
 Calls Tryd.prog 56 #[.pointer (some ⟨R,0,none⟩),.int .u8 59] w fun e w'=>e=.returned (.bool o.isSome)∧Boxed w' R 95 (.string ⟨(o.getD l).toArray⟩)∧w.grownBy w' (some R):=sign_head R 59 l w hl hb o ho
theorem namedh_of (s:ByteArray) (b:Bool) (h:nameL s.data.toList=b) (w:World) (hs:s.size≤maxLen):Calls Tryd.prog 39 #[.string s] w (Same (.bool b) w):=h ▸ named_any s w hs
theorem results_pair {w:World} {tmps:Array Value} {B:Nat} {a b:ByteArray} {ok:Bool} (h:PairAt w B 85 a b)
 (h2:tmps.getD 2 undef=.pointer (some ⟨B,0,none⟩):=by rfl) (h3:tmps.getD 3 undef=.bool ok:=by rfl) :
 (results Tryd.f57 tmps).run Tryd.prog w=.ok (.tuple #[.agg #[.string a,.string b],.bool ok]) w:=by
 rw [Array.getD_eq_getD_getElem?] at h2 h3
 have c0:=h.cell0;have c1:=h.cell1
 simp [results,Tryd.results57,go_sem,c0,c1,h2,h3]
def pairV (R:Nat) (w:World):Option (Fld × List UInt8)→Ending→World→Prop
 | none,e,w'=>(∃ a b,e=.returned (.tuple #[.agg #[.string a,.string b],.bool false]))∧w.grownBy w' (some R)
 | some (p,r),e,w'=>e=.returned (.tuple #[.agg #[.string ⟨p.1.toArray⟩,.string ⟨p.2.toArray⟩],.bool true])∧Boxed w' R 95 (.string ⟨r.toArray⟩)∧w.grownBy w' (some R)
set_option maxHeartbeats 2000000 in
set_option maxRecDepth 100000 in
theorem param_head (R:Nat) (l:List UInt8) (w:World) (hl:l.length≤1000000) (hb:Boxed w R 95 (.string ⟨l.toArray⟩)) (Q:Option (Fld × List UInt8)) (hQ:paramL l=Q) :
 Calls Tryd.prog 57 #[.pointer (some ⟨R,0,none⟩)] w (pairV R w Q):=by
 obtain ⟨l1,h1⟩:∃ l1,l.dropWhile blankC=l1:=⟨_,rfl⟩
 obtain ⟨k,hk⟩:∃ k,l1.takeWhile plainC=k:=⟨_,rfl⟩
 obtain ⟨l2,h2⟩:∃ l2,l1.dropWhile plainC=l2:=⟨_,rfl⟩
 unfold paramL at hQ
 rw [h1,hk,h2] at hQ
 have hl1:l1.length≤1000000:=by have:=dropWhile_len blankC l;rw [h1] at this;omega
 have hl2:l2.length≤1000000:=by have:=dropWhile_len plainC l1;rw [h2] at this;omega
 have hlk:k.length≤1000000:=by have:=takeWhile_len plainC l1;rw [hk] at this;omega
 have hb0:Boxed (w.alloc (.cells #[.string ⟨#[]⟩,.string ⟨#[]⟩] 85)) R 95 (.string ⟨l.toArray⟩):=hb.alloc _
 have hp0:=PairAt.new w 85 ⟨#[]⟩ ⟨#[]⟩
 have hRl:=hb.lt
 have HB0:=Lib.hid hb0;have HP0:=Lib.hid hp0;have H1:=Lib.hid h1;have HK:=Lib.hid hk;have H2:=Lib.hid h2;have HQ:=Lib.hid hQ
 clear hb0 hp0 h1 hk h2 hQ hb
 obtain ⟨K,hK⟩:∃ K:ByteArray,(⟨k.toArray⟩:ByteArray)=K:=⟨_,rfl⟩
 have hKs:K.size≤maxLen:=by rw [← hK];show k.length≤maxLen;unfold maxLen;omega
 have hKd:K.data.toList=k:=by rw [← hK]
 have HKK:=Lib.hid hK;clear hK
 have hne:some w.heap.size≠some R:=by simp;omega
 rcases hn:nameL k with _ | _
 ·have HN:=Lib.hid (show nameL K.data.toList=false by rw [hKd];exact hn)
  have hq:=HQ.out
  rw [hn,if_neg (by simp)] at hq
  subst hq
  clear hn hKd
  go_enter Tryd.func57,Tryd.ntmps57
  go_wp2_with (first | (go_at_call 54;refine (blanks_head R l _ HB0.out l1 H1.out).mono ?_;rintro e w1 ⟨rfl,hb1,hg1⟩;have HG1:=Lib.hid hg1;have HB1:=Lib.hid hb1;clear hg1 hb1) | (go_at_call 55;refine (run_head R l1 _ hl1 HB1.out k l2 HK.out H2.out).mono ?_;rintro e w2 ⟨rfl,hb2,hg2⟩;clear HK;rw [HKK.out];have hB2:=(HP0.out.kept HG1.out hne).kept hg2 hne;have HG2:=Lib.hid (((World.grownBy_alloc w _ _).trans HG1.out).trans hg2);have HB2:=Lib.hid (Boxed.alloc hb2 (.cells #[.string K,.string ⟨#[]⟩] 85));have HBB:=Lib.hid (hB2.kept (World.grownBy_alloc w2 (.cells #[.string K,.string ⟨#[]⟩] 85) none) (by simp));have hPP:=PairAt.new w2 85 K ⟨#[]⟩;have hRw:R<w2.heap.size:=Boxed.lt hb2;have hBw:w.heap.size<w2.heap.size:=PairAt.lt hB2;have hneP:some w2.heap.size≠some R:=(by simp;omega);have HG2a:=Lib.hid (HG2.out.trans (World.grownBy_alloc w2 (.cells #[.string K,.string ⟨#[]⟩] 85) (some R)));have HPP:=Lib.hid hPP;have hBc0:=hB2.cell0;have hBc1:=hB2.cell1;have hBf0:=hB2.frozen0;have hBf1:=hB2.frozen1;have HBW:=Lib.hid hB2;clear hg2 hb2 hB2 hPP) | (go_at_call 39;refine (namedh_of K false HN.out _ hKs).mono ?_;rintro e w3 ⟨rfl,rfl⟩))
  refine bodyPost_ret (results_pair (((HBW.out.set0 K).set1 ⟨#[]⟩).kept (World.grownBy_alloc _ _ none) (by simp))) rfl ?_
  exact ⟨⟨_,_,rfl⟩,(grown_fresh (grown_fresh HG2.out (Nat.le_refl _)) (Nat.le_refl _)).trans (World.grownBy_alloc _ _ _)⟩
 ·have HN:=Lib.hid (show nameL K.data.toList=true by rw [hKd];exact hn)
  rcases hs:signL 61 l2 with _ | l3
  ·have HS:=Lib.hid hs
   have hq:=HQ.out
   rw [hn,if_pos rfl,hs] at hq
   subst hq
   clear hn hKd hs
   go_enter Tryd.func57,Tryd.ntmps57
   go_wp2_with (first | (go_at_call 54;refine (blanks_head R l _ HB0.out l1 H1.out).mono ?_;rintro e w1 ⟨rfl,hb1,hg1⟩;have HG1:=Lib.hid hg1;have HB1:=Lib.hid hb1;clear hg1 hb1) | (go_at_call 55;refine (run_head R l1 _ hl1 HB1.out k l2 HK.out H2.out).mono ?_;rintro e w2 ⟨rfl,hb2,hg2⟩;clear HK;rw [HKK.out];have hB2:=(HP0.out.kept HG1.out hne).kept hg2 hne;have HG2:=Lib.hid (((World.grownBy_alloc w _ _).trans HG1.out).trans hg2);have HB2:=Lib.hid (Boxed.alloc hb2 (.cells #[.string K,.string ⟨#[]⟩] 85));have HBB:=Lib.hid (hB2.kept (World.grownBy_alloc w2 (.cells #[.string K,.string ⟨#[]⟩] 85) none) (by simp));have hPP:=PairAt.new w2 85 K ⟨#[]⟩;have hRw:R<w2.heap.size:=Boxed.lt hb2;have hBw:w.heap.size<w2.heap.size:=PairAt.lt hB2;have hneP:some w2.heap.size≠some R:=(by simp;omega);have HG2a:=Lib.hid (HG2.out.trans (World.grownBy_alloc w2 (.cells #[.string K,.string ⟨#[]⟩] 85) (some R)));have HPP:=Lib.hid hPP;have hBc0:=hB2.cell0;have hBc1:=hB2.cell1;have hBf0:=hB2.frozen0;have hBf1:=hB2.frozen1;have HBW:=Lib.hid hB2;clear hg2 hb2 hB2 hPP) | (go_at_call 39;refine (namedh_of K true HN.out _ hKs).mono ?_;rintro e w3 ⟨rfl,rfl⟩) | (go_at_call 56;refine (sign61 R l2 _ hl2 HB2.out none HS.out).mono ?_;rintro e w3 ⟨rfl,hb3,hg3⟩;clear HS;have hP3:=HPP.out.kept hg3 hneP;have hB3:=HBB.out.kept hg3 hne;have HG3:=Lib.hid (HG2a.out.trans hg3);have HB3:=Lib.hid hb3;have HP3:=Lib.hid hP3;have HBB3:=Lib.hid hB3;have c0:=hP3.cell0;have c1:=hP3.cell1;have f0:=hP3.frozen0;have f1:=hP3.frozen1;have d0:=hB3.cell0;have d1:=hB3.cell1;have e0:=hB3.frozen0;have e1:=hB3.frozen1;clear hb3 hg3 hP3 hB3))
   refine bodyPost_ret (results_pair ((HBB3.out.set0 K).set1 ⟨#[]⟩)) rfl ?_
   exact ⟨⟨_,_,rfl⟩,grown_fresh (grown_fresh HG3.out (Nat.le_refl _)) (Nat.le_refl _)⟩
  ·have HS:=Lib.hid hs
   have hl3:l3.length≤1000000:=by have:=congrArg List.length (signL_len hs);rw [List.length_cons] at this;omega
   have hBP:some w.heap.size≠some R:=hne
   rcases hs2:signL 34 l3 with _ | l4
   ·obtain ⟨v,hv⟩:∃ v,l3.takeWhile plainC=v:=⟨_,rfl⟩
    obtain ⟨r,hr⟩:∃ r,l3.dropWhile plainC=r:=⟨_,rfl⟩
    obtain ⟨V,hVV⟩:∃ V:ByteArray,(⟨v.toArray⟩:ByteArray)=V:=⟨_,rfl⟩
    have HT:=Lib.hid hs2;have HVV:=Lib.hid hv;have HRR:=Lib.hid hr;have HV:=Lib.hid hVV
    have hq:=HQ.out
    rw [hn,if_pos rfl,hs] at hq
    dsimp only at hq
    rw [hs2] at hq
    dsimp only at hq
    rw [hv,hr] at hq
    by_cases hv0:v=[]
    ·rw [if_pos hv0] at hq
     subst hq
     have hem:V.toList.isEmpty=true:=by rw [Lib.toList_data,← hVV,hv0];rfl
     clear hn hKd hs hs2 hv hr hVV hv0
     go_enter Tryd.func57,Tryd.ntmps57
     go_wp2_with (first | (go_at_call 54;refine (blanks_head R l _ HB0.out l1 H1.out).mono ?_;rintro e w1 ⟨rfl,hb1,hg1⟩;have HG1:=Lib.hid hg1;have HB1:=Lib.hid hb1;clear hg1 hb1) | (go_at_call 55;refine (run_head R l1 _ hl1 HB1.out k l2 HK.out H2.out).mono ?_;rintro e w2 ⟨rfl,hb2,hg2⟩;clear HK;rw [HKK.out];have hB2:=(HP0.out.kept HG1.out hne).kept hg2 hne;have HG2:=Lib.hid (((World.grownBy_alloc w _ _).trans HG1.out).trans hg2);have HB2:=Lib.hid (Boxed.alloc hb2 (.cells #[.string K,.string ⟨#[]⟩] 85));have HBB:=Lib.hid (hB2.kept (World.grownBy_alloc w2 (.cells #[.string K,.string ⟨#[]⟩] 85) none) (by simp));have hPP:=PairAt.new w2 85 K ⟨#[]⟩;have hRw:R<w2.heap.size:=Boxed.lt hb2;have hBw:w.heap.size<w2.heap.size:=PairAt.lt hB2;have hneP:some w2.heap.size≠some R:=(by simp;omega);have HG2a:=Lib.hid (HG2.out.trans (World.grownBy_alloc w2 (.cells #[.string K,.string ⟨#[]⟩] 85) (some R)));have HPP:=Lib.hid hPP;have hBc0:=hB2.cell0;have hBc1:=hB2.cell1;have hBf0:=hB2.frozen0;have hBf1:=hB2.frozen1;have HBW:=Lib.hid hB2;clear hg2 hb2 hB2 hPP) | (go_at_call 39;refine (namedh_of K true HN.out _ hKs).mono ?_;rintro e w3 ⟨rfl,rfl⟩) | (go_at_call 56;refine (sign61 R l2 _ hl2 HB2.out (some l3) HS.out).mono ?_;rintro e w3 ⟨rfl,hb3,hg3⟩;clear HS;have hP3:=HPP.out.kept hg3 hneP;have hB3:=HBB.out.kept hg3 hne;have HG3:=Lib.hid (HG2a.out.trans hg3);have HB3:=Lib.hid hb3;have HP3:=Lib.hid hP3;have HBB3:=Lib.hid hB3;have c0:=hP3.cell0;have c1:=hP3.cell1;have f0:=hP3.frozen0;have f1:=hP3.frozen1;have d0:=hB3.cell0;have d1:=hB3.cell1;have e0:=hB3.frozen0;have e1:=hB3.frozen1;clear hb3 hg3 hP3 hB3) | (go_at_call 56;refine (sign34 R l3 _ hl3 HB3.out none HT.out).mono ?_;rintro e w4 ⟨rfl,hb4,hg4⟩;clear HT;have hP4:=HP3.out.kept hg4 hneP;have hB4:=HBB3.out.kept hg4 hne;have HG4:=Lib.hid (HG3.out.trans hg4);have HB4:=Lib.hid hb4;have HP4:=Lib.hid hP4;have HBB4:=Lib.hid hB4;have c40:=hP4.cell0;have c41:=hP4.cell1;have f40:=hP4.frozen0;have f41:=hP4.frozen1;have d40:=hB4.cell0;have d41:=hB4.cell1;have e40:=hB4.frozen0;have e41:=hB4.frozen1;clear hb4 hg4 hP4 hB4) | (go_at_call 55;refine (run_head R l3 _ hl3 HB4.out v r HVV.out HRR.out).mono ?_;rintro e w5 ⟨rfl,hb5,hg5⟩;rw [HV.out];have hP5:=HP4.out.kept hg5 hneP;have hB5:=HBB4.out.kept hg5 hne;have HG5:=Lib.hid (HG4.out.trans hg5);have HB5:=Lib.hid hb5;have HP5:=Lib.hid hP5;have HBB5:=Lib.hid hB5;have c50:=hP5.cell0;have c51:=hP5.cell1;have f50:=hP5.frozen0;have f51:=hP5.frozen1;have d50:=hB5.cell0;have d51:=hB5.cell1;have e50:=hB5.frozen0;have e51:=hB5.frozen1;clear hb5 hg5 hP5 hB5))
     go_region
     all_goals
      go_wp2
      refine bodyPost_ret (results_pair (((HBB5.out.kept (grown_set _ _ 1 (.string V)) (by simp;omega)).set0 K).set1 V)) rfl ?_
      exact ⟨⟨_,_,rfl⟩,grown_drew (grown_fresh (grown_fresh (grown_fresh HG5.out (Nat.le_of_lt hBw)) (Nat.le_refl _)) (Nat.le_refl _))⟩
    ·rw [if_neg hv0] at hq
     subst hq
     have hem:V.toList.isEmpty=false:=by
      rw [Lib.toList_data,← hVV]
      rcases v with _ | ⟨c,u⟩
      ·exact absurd rfl hv0
      ·rfl
     clear hn hKd hs hs2 hv hr hVV hv0
     go_enter Tryd.func57,Tryd.ntmps57
     go_wp2_with (first | (go_at_call 54;refine (blanks_head R l _ HB0.out l1 H1.out).mono ?_;rintro e w1 ⟨rfl,hb1,hg1⟩;have HG1:=Lib.hid hg1;have HB1:=Lib.hid hb1;clear hg1 hb1) | (go_at_call 55;refine (run_head R l1 _ hl1 HB1.out k l2 HK.out H2.out).mono ?_;rintro e w2 ⟨rfl,hb2,hg2⟩;clear HK;rw [HKK.out];have hB2:=(HP0.out.kept HG1.out hne).kept hg2 hne;have HG2:=Lib.hid (((World.grownBy_alloc w _ _).trans HG1.out).trans hg2);have HB2:=Lib.hid (Boxed.alloc hb2 (.cells #[.string K,.string ⟨#[]⟩] 85));have HBB:=Lib.hid (hB2.kept (World.grownBy_alloc w2 (.cells #[.string K,.string ⟨#[]⟩] 85) none) (by simp));have hPP:=PairAt.new w2 85 K ⟨#[]⟩;have hRw:R<w2.heap.size:=Boxed.lt hb2;have hBw:w.heap.size<w2.heap.size:=PairAt.lt hB2;have hneP:some w2.heap.size≠some R:=(by simp;omega);have HG2a:=Lib.hid (HG2.out.trans (World.grownBy_alloc w2 (.cells #[.string K,.string ⟨#[]⟩] 85) (some R)));have HPP:=Lib.hid hPP;have hBc0:=hB2.cell0;have hBc1:=hB2.cell1;have hBf0:=hB2.frozen0;have hBf1:=hB2.frozen1;have HBW:=Lib.hid hB2;clear hg2 hb2 hB2 hPP) | (go_at_call 39;refine (namedh_of K true HN.out _ hKs).mono ?_;rintro e w3 ⟨rfl,rfl⟩) | (go_at_call 56;refine (sign61 R l2 _ hl2 HB2.out (some l3) HS.out).mono ?_;rintro e w3 ⟨rfl,hb3,hg3⟩;clear HS;have hP3:=HPP.out.kept hg3 hneP;have hB3:=HBB.out.kept hg3 hne;have HG3:=Lib.hid (HG2a.out.trans hg3);have HB3:=Lib.hid hb3;have HP3:=Lib.hid hP3;have HBB3:=Lib.hid hB3;have c0:=hP3.cell0;have c1:=hP3.cell1;have f0:=hP3.frozen0;have f1:=hP3.frozen1;have d0:=hB3.cell0;have d1:=hB3.cell1;have e0:=hB3.frozen0;have e1:=hB3.frozen1;clear hb3 hg3 hP3 hB3) | (go_at_call 56;refine (sign34 R l3 _ hl3 HB3.out none HT.out).mono ?_;rintro e w4 ⟨rfl,hb4,hg4⟩;clear HT;have hP4:=HP3.out.kept hg4 hneP;have hB4:=HBB3.out.kept hg4 hne;have HG4:=Lib.hid (HG3.out.trans hg4);have HB4:=Lib.hid hb4;have HP4:=Lib.hid hP4;have HBB4:=Lib.hid hB4;have c40:=hP4.cell0;have c41:=hP4.cell1;have f40:=hP4.frozen0;have f41:=hP4.frozen1;have d40:=hB4.cell0;have d41:=hB4.cell1;have e40:=hB4.frozen0;have e41:=hB4.frozen1;clear hb4 hg4 hP4 hB4) | (go_at_call 55;refine (run_head R l3 _ hl3 HB4.out v r HVV.out HRR.out).mono ?_;rintro e w5 ⟨rfl,hb5,hg5⟩;rw [HV.out];have hP5:=HP4.out.kept hg5 hneP;have hB5:=HBB4.out.kept hg5 hne;have HG5:=Lib.hid (HG4.out.trans hg5);have HB5:=Lib.hid hb5;have HP5:=Lib.hid hP5;have HBB5:=Lib.hid hB5;have c50:=hP5.cell0;have c51:=hP5.cell1;have f50:=hP5.frozen0;have f51:=hP5.frozen1;have d50:=hB5.cell0;have d51:=hB5.cell1;have e50:=hB5.frozen0;have e51:=hB5.frozen1;clear hb5 hg5 hP5 hB5))
     go_region
     all_goals
      go_wp2
      refine bodyPost_ret (results_pair (((HBB5.out.kept (grown_set _ _ 1 (.string V)) (by simp;omega)).set0 K).set1 V)) rfl ?_
      exact ⟨by rw [← HKK.out,← HV.out],((HB5.out.kept (grown_set _ w2.heap.size 1 (.string V)) (by simp;omega)).kept (grown_set _ w.heap.size 0 (.string K)) (by simp;omega)).kept (grown_drew (grown_set _ w.heap.size 1 (.string V))) (Ne.symm hne),grown_drew (grown_fresh (grown_fresh (grown_fresh HG5.out (Nat.le_of_lt hBw)) (Nat.le_refl _)) (Nat.le_refl _))⟩
   ·have HT:=Lib.hid hs2
    have hl4:l4.length≤1000000:=by have:=congrArg List.length (signL_len hs2);rw [List.length_cons] at this;omega
    have hq:=HQ.out
    rw [hn,if_pos rfl,hs] at hq
    dsimp only at hq
    rw [hs2] at hq
    dsimp only at hq
    rcases hqq:quotedL (l4.length+1) l4 with _ | ⟨v,r⟩
    ·rw [hqq] at hq
     replace hq:none=Q:=hq
     subst hq
     have HQQ:=Lib.hid hqq
     clear hn hKd hs hs2 hqq
     go_enter Tryd.func57,Tryd.ntmps57
     go_wp2_with (first | (go_at_call 54;refine (blanks_head R l _ HB0.out l1 H1.out).mono ?_;rintro e w1 ⟨rfl,hb1,hg1⟩;have HG1:=Lib.hid hg1;have HB1:=Lib.hid hb1;clear hg1 hb1) | (go_at_call 55;refine (run_head R l1 _ hl1 HB1.out k l2 HK.out H2.out).mono ?_;rintro e w2 ⟨rfl,hb2,hg2⟩;clear HK;rw [HKK.out];have hB2:=(HP0.out.kept HG1.out hne).kept hg2 hne;have HG2:=Lib.hid (((World.grownBy_alloc w _ _).trans HG1.out).trans hg2);have HB2:=Lib.hid (Boxed.alloc hb2 (.cells #[.string K,.string ⟨#[]⟩] 85));have HBB:=Lib.hid (hB2.kept (World.grownBy_alloc w2 (.cells #[.string K,.string ⟨#[]⟩] 85) none) (by simp));have hPP:=PairAt.new w2 85 K ⟨#[]⟩;have hRw:R<w2.heap.size:=Boxed.lt hb2;have hBw:w.heap.size<w2.heap.size:=PairAt.lt hB2;have hneP:some w2.heap.size≠some R:=(by simp;omega);have HG2a:=Lib.hid (HG2.out.trans (World.grownBy_alloc w2 (.cells #[.string K,.string ⟨#[]⟩] 85) (some R)));have HPP:=Lib.hid hPP;have hBc0:=hB2.cell0;have hBc1:=hB2.cell1;have hBf0:=hB2.frozen0;have hBf1:=hB2.frozen1;have HBW:=Lib.hid hB2;clear hg2 hb2 hB2 hPP) | (go_at_call 39;refine (namedh_of K true HN.out _ hKs).mono ?_;rintro e w3 ⟨rfl,rfl⟩) | (go_at_call 56;refine (sign61 R l2 _ hl2 HB2.out (some l3) HS.out).mono ?_;rintro e w3 ⟨rfl,hb3,hg3⟩;clear HS;have hP3:=HPP.out.kept hg3 hneP;have hB3:=HBB.out.kept hg3 hne;have HG3:=Lib.hid (HG2a.out.trans hg3);have HB3:=Lib.hid hb3;have HP3:=Lib.hid hP3;have HBB3:=Lib.hid hB3;have c0:=hP3.cell0;have c1:=hP3.cell1;have f0:=hP3.frozen0;have f1:=hP3.frozen1;have d0:=hB3.cell0;have d1:=hB3.cell1;have e0:=hB3.frozen0;have e1:=hB3.frozen1;clear hb3 hg3 hP3 hB3) | (go_at_call 56;refine (sign34 R l3 _ hl3 HB3.out (some l4) HT.out).mono ?_;rintro e w4 ⟨rfl,hb4,hg4⟩;clear HT;have hP4:=HP3.out.kept hg4 hneP;have hB4:=HBB3.out.kept hg4 hne;have HG4:=Lib.hid (HG3.out.trans hg4);have HB4:=Lib.hid hb4;have HP4:=Lib.hid hP4;have HBB4:=Lib.hid hB4;have c40:=hP4.cell0;have c41:=hP4.cell1;have f40:=hP4.frozen0;have f41:=hP4.frozen1;have d40:=hB4.cell0;have d41:=hB4.cell1;have e40:=hB4.frozen0;have e41:=hB4.frozen1;clear hb4 hg4 hP4 hB4) | (go_at_call 76;refine (quoted_head R l4 _ hl4 HB4.out none HQQ.out).mono ?_;rintro e w5 ⟨rfl,hg5⟩;have hP5:=HP4.out.kept hg5 hneP;have hB5:=HBB4.out.kept hg5 hne;have HG5:=Lib.hid (HG4.out.trans hg5);have HP5:=Lib.hid hP5;have HBB5:=Lib.hid hB5;have c50:=hP5.cell0;have c51:=hP5.cell1;have f50:=hP5.frozen0;have f51:=hP5.frozen1;have d50:=hB5.cell0;have d51:=hB5.cell1;have e50:=hB5.frozen0;have e51:=hB5.frozen1;clear hg5 hP5 hB5))
     refine bodyPost_ret (results_pair (((HBB5.out.kept (grown_set _ _ 1 (.string ⟨#[]⟩)) (by simp;omega)).set0 K).set1 ⟨#[]⟩)) rfl ?_
     exact ⟨⟨_,_,rfl⟩,grown_fresh (grown_fresh (grown_fresh HG5.out (Nat.le_of_lt hBw)) (Nat.le_refl _)) (Nat.le_refl _)⟩
    ·rw [hqq] at hq
     replace hq:some ((k,v),r)=Q:=hq
     subst hq
     obtain ⟨V,hVV⟩:∃ V:ByteArray,(⟨v.toArray⟩:ByteArray)=V:=⟨_,rfl⟩
     have HV:=Lib.hid hVV
     have HQQ:=Lib.hid hqq
     clear hn hKd hs hs2 hqq hVV
     go_enter Tryd.func57,Tryd.ntmps57
     go_wp2_with (first | (go_at_call 54;refine (blanks_head R l _ HB0.out l1 H1.out).mono ?_;rintro e w1 ⟨rfl,hb1,hg1⟩;have HG1:=Lib.hid hg1;have HB1:=Lib.hid hb1;clear hg1 hb1) | (go_at_call 55;refine (run_head R l1 _ hl1 HB1.out k l2 HK.out H2.out).mono ?_;rintro e w2 ⟨rfl,hb2,hg2⟩;clear HK;rw [HKK.out];have hB2:=(HP0.out.kept HG1.out hne).kept hg2 hne;have HG2:=Lib.hid (((World.grownBy_alloc w _ _).trans HG1.out).trans hg2);have HB2:=Lib.hid (Boxed.alloc hb2 (.cells #[.string K,.string ⟨#[]⟩] 85));have HBB:=Lib.hid (hB2.kept (World.grownBy_alloc w2 (.cells #[.string K,.string ⟨#[]⟩] 85) none) (by simp));have hPP:=PairAt.new w2 85 K ⟨#[]⟩;have hRw:R<w2.heap.size:=Boxed.lt hb2;have hBw:w.heap.size<w2.heap.size:=PairAt.lt hB2;have hneP:some w2.heap.size≠some R:=(by simp;omega);have HG2a:=Lib.hid (HG2.out.trans (World.grownBy_alloc w2 (.cells #[.string K,.string ⟨#[]⟩] 85) (some R)));have HPP:=Lib.hid hPP;have hBc0:=hB2.cell0;have hBc1:=hB2.cell1;have hBf0:=hB2.frozen0;have hBf1:=hB2.frozen1;have HBW:=Lib.hid hB2;clear hg2 hb2 hB2 hPP) | (go_at_call 39;refine (namedh_of K true HN.out _ hKs).mono ?_;rintro e w3 ⟨rfl,rfl⟩) | (go_at_call 56;refine (sign61 R l2 _ hl2 HB2.out (some l3) HS.out).mono ?_;rintro e w3 ⟨rfl,hb3,hg3⟩;clear HS;have hP3:=HPP.out.kept hg3 hneP;have hB3:=HBB.out.kept hg3 hne;have HG3:=Lib.hid (HG2a.out.trans hg3);have HB3:=Lib.hid hb3;have HP3:=Lib.hid hP3;have HBB3:=Lib.hid hB3;have c0:=hP3.cell0;have c1:=hP3.cell1;have f0:=hP3.frozen0;have f1:=hP3.frozen1;have d0:=hB3.cell0;have d1:=hB3.cell1;have e0:=hB3.frozen0;have e1:=hB3.frozen1;clear hb3 hg3 hP3 hB3) | (go_at_call 56;refine (sign34 R l3 _ hl3 HB3.out (some l4) HT.out).mono ?_;rintro e w4 ⟨rfl,hb4,hg4⟩;clear HT;have hP4:=HP3.out.kept hg4 hneP;have hB4:=HBB3.out.kept hg4 hne;have HG4:=Lib.hid (HG3.out.trans hg4);have HB4:=Lib.hid hb4;have HP4:=Lib.hid hP4;have HBB4:=Lib.hid hB4;have c40:=hP4.cell0;have c41:=hP4.cell1;have f40:=hP4.frozen0;have f41:=hP4.frozen1;have d40:=hB4.cell0;have d41:=hB4.cell1;have e40:=hB4.frozen0;have e41:=hB4.frozen1;clear hb4 hg4 hP4 hB4) | (go_at_call 76;refine (quoted_head R l4 _ hl4 HB4.out (some (v,r)) HQQ.out).mono ?_;rintro e w5 ⟨rfl,hb5,hg5⟩;rw [HV.out];have hP5:=HP4.out.kept hg5 hneP;have hB5:=HBB4.out.kept hg5 hne;have HG5:=Lib.hid (HG4.out.trans hg5);have HB5:=Lib.hid hb5;have HP5:=Lib.hid hP5;have HBB5:=Lib.hid hB5;have c50:=hP5.cell0;have c51:=hP5.cell1;have f50:=hP5.frozen0;have f51:=hP5.frozen1;have d50:=hB5.cell0;have d51:=hB5.cell1;have e50:=hB5.frozen0;have e51:=hB5.frozen1;clear hb5 hg5 hP5 hB5))
     refine bodyPost_ret (results_pair (((HBB5.out.kept (grown_set _ _ 1 (.string V)) (by simp;omega)).set0 K).set1 V)) rfl ?_
     exact ⟨by rw [← HKK.out,← HV.out],((HB5.out.kept (grown_set _ w2.heap.size 1 (.string V)) (by simp;omega)).kept (grown_set _ w.heap.size 0 (.string K)) (by simp;omega)).kept (grown_set _ w.heap.size 1 (.string V)) (Ne.symm hne),grown_fresh (grown_fresh (grown_fresh HG5.out (Nat.le_of_lt hBw)) (Nat.le_refl _)) (Nat.le_refl _)⟩
end Go.Proofs.YtmpiobfdchlikaaDoor
end
section
set_option synthInstance.maxSize 4000
namespace Nun
open Go Go.RowKit
theorem PairAt.below {w w':World} {B t:Nat} {a b:ByteArray} (h:PairAt w B t a b) (k:Below w.heap.size w w'):PairAt w' B t a b:=(k.block B h.lt).trans h
theorem PairAt.below' {w w':World} {B t C:Nat} {a b:ByteArray} (h:PairAt w B t a b) (k:Below C w w') (hC:B<C):PairAt w' B t a b:=(k.block B hC).trans h
theorem fld_mid (L R:List Fld) (x:Fld):fldCells (L++x::R)=fldCells L++([.string ⟨x.1.toArray⟩,.string ⟨x.2.toArray⟩]++fldCells R):=by simp [fldCells]
theorem fldCells_at (F:List Fld) (i:Nat) (h:i<F.length):(fldCells F)[i * 2]? =some (.string ⟨F[i].1.toArray⟩)∧(fldCells F)[i * 2+1]? =some (.string ⟨F[i].2.toArray⟩):=by
 have e:fldCells F=fldCells (F.take i)++([.string ⟨F[i].1.toArray⟩,.string ⟨F[i].2.toArray⟩]++fldCells (F.drop (i+1))):=by
  have e0:fldCells F=fldCells (F.take i++F[i]::F.drop (i+1)):=by rw [← List.drop_eq_getElem_cons h,List.take_append_drop]
  exact e0.trans (fld_mid _ _ _)
 have hl:(fldCells (F.take i)).length=i * 2:=by rw [fldCells_len,List.length_take];omega
 rw [e]
 constructor
 ·rw [List.getElem?_append_right (by omega),hl,Nat.sub_self];rfl
 ·rw [List.getElem?_append_right (by omega),hl,show i * 2+1 - i * 2=1 by omega];rfl
theorem any_take_succ (p:Fld→Bool) (F:List Fld) (i:Nat) (h:i<F.length):(F.take (i+1)).any p=((F.take i).any p || p F[i]):=by
 rw [List.take_succ_eq_append_getElem h,List.any_append];simp
theorem any_hit (p:Fld→Bool) (F:List Fld) (i:Nat) (h:i<F.length) (hp:p F[i]=true):F.any p=true:=List.any_eq_true.2 ⟨_,List.getElem_mem h,hp⟩
end Nun
namespace Go.Proofs.YtmpiobfdchlikaaDoor
open Go Go.RowKit Nun
theorem alike_of (s t:ByteArray) (b:Bool) (h:(foldL s.data.toList == foldL t.data.toList)=b) (w:World) (hs:s.size≤1000000) (ht:t.size≤1000000):Calls Tryd.prog 42 #[.string s,.string t] w (Ret (.bool b) w):=h ▸ alike_any s t w hs ht
set_option maxHeartbeats 1000000 in
theorem closure_any (P:Nat) (k v a c:ByteArray) (b:Bool) (w:World) (hP:PairAt w P 85 k v) (hb:(foldL k.data.toList == foldL a.data.toList)=b) (hk:k.size≤1000000) (ha:a.size≤1000000) :
 Calls Tryd.prog 59 #[.agg #[.string a,.string c],.pointer (some ⟨P,0,none⟩)] w (Ret (.bool b) w):=by
 have c0:=hP.cell0
 have hlt:=hP.lt
 have HBB:=Lib.hid hb;clear hb hP
 go_enter Tryd.func59,Tryd.ntmps59
 go_wp2_with (go_at_call 42;refine (alike_of k a b HBB.out _ hk ha).mono ?_;rintro e w1 ⟨rfl,hb1⟩)
 go_ret
 exact ⟨rfl,((Below.refl _ _).alloc (Nat.le_refl _) _).trans (hb1.mono (by simp))⟩
set_option maxHeartbeats 2000000 in
set_option maxRecDepth 100000 in
theorem indexFunc_any (P B:Nat) (k v:ByteArray) (F:List Fld) (r:Value) (w:World) (hP:PairAt w P 85 k v) (hr:w.ownsRow B 85 2 r F.length (fldCells F)) (hk:k.size≤1000000) (hF:F.length≤1000000) (hFs:∀ q∈F,q.1.length≤1000000) :
 Calls Tryd.prog 77 #[r,.func (.func 59) #[] #[.pointer (some ⟨P,0,none⟩)]] w fun e w'=>∃ n:Int,e=.returned (.int .i64 n)∧decide (0≤n)=F.any (fun q=>foldL k.data.toList == foldL q.1)∧Below w.heap.size w w':=by
 obtain ⟨a,cap,rfl,hform⟩:∃ a cap,r=.slice a F.length cap∧(F.length=0∨∃ g,a=some ⟨g,0,none⟩∧g<w.heap.size∧F.length≤cap):=by
  rcases row_form hr with ⟨h,h0⟩ | ⟨g,cap,h,_,h2,h3⟩
  ·exact ⟨none,0,by rw [h,h0],.inl h0⟩
  ·exact ⟨_,_,h,.inr ⟨g,rfl,h2,h3⟩⟩
 obtain ⟨n,hn⟩:∃ n,F.length=n:=⟨_,rfl⟩
 have HFO:=Lib.hid hform;have HR:=Lib.hid hr;have HPP:=Lib.hid hP;have HFS:=Lib.hid hFs;have HN:=Lib.hid hn
 rw [hn] at hF ⊢
 clear hform hr hP hFs hn
 go_enter Tryd.func77,Tryd.ntmps77
 go_wp2
 go_loopw [4,5,8] (fun x y i wr=>∃ j:Nat,i=.int .i64 j∧j≤n∧Below w.heap.size w wr∧Hid ((F.take j).any (fun q=>foldL k.data.toList == foldL q.1)=false)) (fun _ _ i _=>n - (intOf i).toNat)
 case atStart=>exact ⟨0,rfl,Nat.zero_le _,Below.refl _ _,Lib.hid rfl⟩
 case round =>
  obtain ⟨j,rfl,hj,hbel,hno⟩:=hrel
  by_cases hlt:j<n
  ·obtain ⟨g,rfl,hg,hcap⟩:∃ g,a=some ⟨g,0,none⟩∧g<w.heap.size∧n≤cap:=by
    rcases HFO.out with h | ⟨g,h1,h2,h3⟩
    ·have:=HN.out;omega
    ·exact ⟨g,h1,h2,by rw [HN.out] at h3;exact h3⟩
   have hjF:j<F.length:=by rw [HN.out];exact hlt
   obtain ⟨f0,f1⟩:=fldCells_at F j hjF
   obtain ⟨q,hq⟩:∃ q,F[j]=q:=⟨_,rfl⟩
   rw [hq] at f0 f1
   have hc0:=HR.out.cellAt (j * 2) (by rw [HN.out];omega)
   have hc1:=HR.out.cellAt (j * 2+1) (by rw [HN.out];omega)
   rw [f0] at hc0;rw [f1] at hc1
   have hc0r:=(hbel.cell (p:=⟨g,j * 2,none⟩) hg).trans hc0
   have hc1r:=(hbel.cell (p:=⟨g,j * 2+1,none⟩) hg).trans hc1
   have hji:(j:Int)<(n:Int):=by omega
   have hqs:(ByteArray.mk q.1.toArray).size≤1000000:=HFS.out q (by rw [← hq];exact List.getElem_mem _)
   have hPr:=HPP.out.below hbel
   have HPr:=Lib.hid hPr
   obtain ⟨A,hA⟩:∃ A:ByteArray,(⟨q.1.toArray⟩:ByteArray)=A:=⟨_,rfl⟩
   obtain ⟨C,hC⟩:∃ C:ByteArray,(⟨q.2.toArray⟩:ByteArray)=C:=⟨_,rfl⟩
   rw [hA] at hc0r hqs;rw [hC] at hc1r
   have hAd:A.data.toList=q.1:=by rw [← hA]
   rcases hh:(foldL k.data.toList == foldL q.1) with _ | _
   ·have HH:=Lib.hid (show (foldL k.data.toList == foldL A.data.toList)=false by rw [hAd];exact hh)
    have HNO:=Lib.hid (show (F.take (j+1)).any (fun q=>foldL k.data.toList == foldL q.1)=false by rw [any_take_succ _ _ _ hjF,hno.out,hq,hh];rfl)
    clear f0 f1 hc0 hc1 hPr hA hC hAd hh hq
    go_wp2_with (go_at_call 59;refine (closure_any P k v A C false _ HPr.out HH.out hk hqs).mono ?_;rintro e w1 ⟨rfl,hb1⟩)
    go_roundw
    case rel=>exact ⟨j+1,by go_num,by omega,hbel.trans (hb1.mono hbel.size),HNO⟩
    case measure=>simp [intOf];omega
   ·have HH:=Lib.hid (show (foldL k.data.toList == foldL A.data.toList)=true by rw [hAd];exact hh)
    have HY:=Lib.hid (any_hit (fun q=>foldL k.data.toList == foldL q.1) F j hjF (by rw [hq];exact hh))
    clear f0 f1 hc0 hc1 hPr hA hC hAd hh hq
    go_wp2_with (go_at_call 59;refine (closure_any P k v A C true _ HPr.out HH.out hk hqs).mono ?_;rintro e w1 ⟨rfl,hb1⟩)
    go_ret
    exact ⟨_,rfl,by rw [HY.out];simp,hbel.trans (hb1.mono hbel.size)⟩
  ·obtain rfl:j=n:=by omega
   have HNO:=Lib.hid (show F.any (fun q=>foldL k.data.toList == foldL q.1)=false by have:=hno.out;rwa [← HN.out,List.take_length] at this)
   go_wp2
   go_ret
   exact ⟨_,rfl,by rw [HNO.out];rfl,hbel⟩
set_option maxHeartbeats 1000000 in
theorem containsFunc_any (P B:Nat) (k v:ByteArray) (F:List Fld) (r:Value) (b:Bool) (w:World) (hP:PairAt w P 85 k v) (hr:w.ownsRow B 85 2 r F.length (fldCells F)) (hk:k.size≤1000000) (hF:F.length≤1000000) (hFs:∀ q∈F,q.1.length≤1000000) (hb:F.any (fun q=>foldL k.data.toList == foldL q.1)=b) :
 Calls Tryd.prog 58 #[r,.func (.func 59) #[] #[.pointer (some ⟨P,0,none⟩)]] w (Ret (.bool b) w):=by
 have H:=indexFunc_any P B k v F r w hP hr hk hF hFs
 rw [hb] at H
 have HH:=Lib.hid H;clear H hP hr hFs hb
 go_enter Tryd.func58,Tryd.ntmps58
 go_wp2_with (go_at_call 77;refine HH.out.mono ?_;rintro e w1 ⟨n,rfl,hn,hb1⟩)
 go_ret
 exact ⟨r1 (vb (by first | rfl | exact hn)),hb1⟩
end Go.Proofs.YtmpiobfdchlikaaDoor
end
section
set_option synthInstance.maxSize 4000
namespace Nun
open Go Go.RowKit
theorem own_grown {w w':World} {B e size n R:Nat} {v:Value} {xs:List Value} (h:w.ownsRow B e size v n xs) (k:w.grownBy w' (some R)) (hR:R<B):w'.ownsRow B e size v n xs :=
 World.ownsRow.kept h k (.inr (fun e=>by have:=(h.lt R e).1;omega))
theorem loopL_done (n:Nat) (l:List UInt8) (F:List Fld) (tw:Bool) (h:l.dropWhile blankC=[]):loopL (n+1) l F tw=some (F,tw):=by rw [loopL,if_pos h]
theorem loopL_nosign (n:Nat) (l:List UInt8) (F:List Fld) (tw:Bool) (h:¬ l.dropWhile blankC=[]) (hs:signL 59 (l.dropWhile blankC)=none):loopL (n+1) l F tw=none:=by rw [loopL,if_neg h,hs]
theorem loopL_noparam (n:Nat) (l t:List UInt8) (F:List Fld) (tw:Bool) (h:¬ l.dropWhile blankC=[]) (hs:signL 59 (l.dropWhile blankC)=some t) (hp:paramL t=none):loopL (n+1) l F tw=none:=by rw [loopL,if_neg h,hs];dsimp only;rw [hp]
theorem loopL_step (n:Nat) (l t r:List UInt8) (p:Fld) (F:List Fld) (tw b:Bool) (h:¬ l.dropWhile blankC=[]) (hs:signL 59 (l.dropWhile blankC)=some t) (hp:paramL t=some (p,r)) (hb:(F.any fun q=>foldL p.1 == foldL q.1)=b):loopL (n+1) l F tw=loopL n r (F++[p]) (tw || b):=by rw [loopL,if_neg h,hs];dsimp only;rw [hp];dsimp only;rw [hb]
theorem own_downp {w:World} {b b':Nat} {e:TypeId} {size:Nat} {v:Value} {n:Nat} {xs:List Value} (h:w.ownsRow b e size v n xs) (hb:b'≤b):w.ownsRow b' e size v n xs:=⟨h.1,h.2.imp id fun ⟨g,cap,cur,h1,h2,h3⟩=>⟨g,cap,cur,h1,Nat.le_trans hb h2,h3⟩⟩
def strLen:Option Value→Nat
 | some (.string b)=>b.size
 | _=>0
theorem empty_iff (l:List UInt8) (S:ByteArray) (h:(⟨l.toArray⟩:ByteArray)=S) (b:Bool) (hb:l.isEmpty=b):S.toList.isEmpty=b:=by
 rw [Lib.toList_data,← h];exact hb
end Nun
namespace Go.Proofs.YtmpiobfdchlikaaDoor
open Go Go.RowKit Nun
def paramsV:PRes→World→Ending→World→Prop
 | .form,w,e,w'=>e=.returned (.tuple #[.string ⟨#[]⟩,.slice none 0 0,.int .i64 7])∧Below w.heap.size w w'
 | .twice,w,e,w'=>e=.returned (.tuple #[.string ⟨#[]⟩,.slice none 0 0,.int .i64 9])∧Below w.heap.size w w'
 | .ok m l,w,e,w'=>∃ v,e=.returned (.tuple #[.string ⟨m.toArray⟩,v,.int .i64 0])∧w'.ownsRow w.heap.size 85 2 v l.length (fldCells l)∧Below w.heap.size w w'
theorem infoPair:(Tryd.prog.info? 85).map (fun i=>(i.zero,i.size,i.bytes))=some (some (.agg #[.string ⟨#[]⟩,.string ⟨#[]⟩]),2,32):=by kernel_rfl
set_option maxHeartbeats 4000000 in
set_option maxRecDepth 100000 in
theorem params_any (s:ByteArray) (w:World) (hs:s.size≤10000) (V:PRes) (hV:paramsL s.data.toList=V):Calls Tryd.prog 41 #[.string s] w (paramsV V w):=by
 obtain ⟨l,hl⟩:∃ l,s.data.toList=l:=⟨_,rfl⟩
 have hll:l.length=s.size:=by subst hl;rfl
 have hsl:(⟨l.toArray⟩:ByteArray)=s:=by subst hl;exact mk_list s
 obtain ⟨l1,h1⟩:∃ l1,l.dropWhile blankC=l1:=⟨_,rfl⟩
 obtain ⟨m,hm⟩:∃ m,l1.takeWhile plainC=m:=⟨_,rfl⟩
 obtain ⟨l2,h2⟩:∃ l2,l1.dropWhile plainC=l2:=⟨_,rfl⟩
 obtain ⟨l3,h3⟩:∃ l3,l2.dropWhile blankC=l3:=⟨_,rfl⟩
 unfold paramsL at hV
 rw [hl,h1,hm,h2,hll] at hV
 have hl1:l1.length≤s.size:=by have:=dropWhile_len blankC l;rw [h1] at this;omega
 have hl2:l2.length≤s.size:=by have:=dropWhile_len plainC l1;rw [h2] at this;omega
 have hl1m:l1.length≤1000000:=by omega
 have hb0:Boxed (w.alloc (.cells #[.string s] 95)) w.heap.size 95 (.string ⟨l.toArray⟩):=by rw [hsl];exact Boxed.new _ _ _
 obtain ⟨M,hM⟩:∃ M:ByteArray,(⟨m.toArray⟩:ByteArray)=M:=⟨_,rfl⟩
 have HB0:=Lib.hid hb0;have H1:=Lib.hid h1;have HMM:=Lib.hid hm;have H2:=Lib.hid h2;have H3:=Lib.hid h3;have HV:=Lib.hid hV;have HM:=Lib.hid hM
 clear hb0 h1 hm h2 h3 hV hl hsl hll hM
 go_enter Tryd.func41,Tryd.ntmps41
 go_wp2_with (first | (go_at_call 54;refine (blanks_head w.heap.size l _ HB0.out l1 H1.out).mono ?_;rintro e w1 ⟨rfl,hb1,hg1⟩;clear H1;have HG1:=Lib.hid hg1;have HB1:=Lib.hid hb1;clear hg1 hb1) | (go_at_call 55;refine (run_head w.heap.size l1 _ hl1m HB1.out m l2 HMM.out H2.out).mono ?_;rintro e w2 ⟨rfl,hb2,hg2⟩;rw [HM.out];have HG2:=Lib.hid (HG1.out.trans hg2);have HB2:=Lib.hid hb2;clear hg2 hb2) | (go_at_call 54;refine (blanks_head w.heap.size l2 _ HB2.out l3 H3.out).mono ?_;rintro e w3 ⟨rfl,hb3,hg3⟩;have HG3:=Lib.hid (HG2.out.trans hg3);have HB3:=Lib.hid hb3;clear hg3 hb3))
 have hbel3:Below w.heap.size w w3:=((Below.refl _ _).alloc (Nat.le_refl _) _).trans (grown_below HG3.out (Nat.le_refl _) (by simp))
 have hRlt:w.heap.size+1≤w3.heap.size:=Boxed.lt HB3.out
 go_loopw [7,8,9,10] (fun v e _ _ wr=>∃ (n:Nat) (q r:List UInt8) (F:List Fld) (tw:Bool),e=.int .i64 (if tw=true then 9 else 0)∧r.length<n∧r.length+F.length≤s.size∧Hid (r.dropWhile blankC=q)∧Hid (∀ p∈F,p.1.length≤1000000) ∧
  Hid (V=match loopL n r F tw with | none=>PRes.form | some (out,tw)=>if m=[] then .form else if tw then .twice else .ok m out) ∧
  Hid (wr.ownsRow (w.heap.size+1) 85 2 v F.length (fldCells F))∧Hid (Boxed wr w.heap.size 95 (.string ⟨q.toArray⟩))∧Hid (Below w.heap.size w wr))
  (fun _ _ _ _ wr=>strLen (wr.cell? ⟨w.heap.size,0,none⟩))
 case atStart=>exact ⟨s.size+1,l3,l2,[],false,rfl,by omega,by simpa using hl2,H3,Lib.hid (by simp),Lib.hid HV.out.symm,Lib.hid (World.ownsRow_nil _ _ _ _),HB3,Lib.hid hbel3⟩
 case round =>
  obtain ⟨n,q,r,F,tw,rfl,hrn,hrF,hq,hFs,hVV,hown,hbox,hbel⟩:=hrel
  have hqr:q.length≤r.length:=by have:=dropWhile_len blankC r;rw [hq.out] at this;exact this
  have hqm:q.length≤1000000:=by omega
  obtain ⟨S,hS⟩:∃ S:ByteArray,(⟨q.toArray⟩:ByteArray)=S:=⟨_,rfl⟩
  have hcr:=hbox.out.cell;have hfr:=hbox.out.frozen
  rw [hS] at hcr
  obtain ⟨n,rfl⟩:∃ n',n=n'+1:=⟨n - 1,by omega⟩
  by_cases hq0:q=[]
  ·have hem:=empty_iff q S hS true (by rw [hq0];rfl)
   have hv:=hVV.out
   rw [loopL_done n r F tw (by rw [hq.out,hq0])] at hv
   dsimp only at hv
   clear hq0 hS
   by_cases hm0:m=[]
   ·have hem2:=empty_iff m M HM.out true (by rw [hm0];rfl)
    rw [if_pos hm0] at hv
    subst hv
    clear hm0
    rcases tw with _ | _
    all_goals
     go_wp2
     go_ret3
     exact ⟨rfl,hbel.out⟩
   ·have hem2:=empty_iff m M HM.out false (by cases m<;>first | rfl | exact absurd rfl hm0)
    rw [if_neg hm0] at hv
    clear hm0
    rcases tw with _ | _
    ·replace hv:V=.ok m F:=hv
     subst hv
     go_wp2
     go_ret3
     exact ⟨_,by rw [← HM.out];rfl,own_downp hown.out (Nat.le_succ _),hbel.out⟩
    ·replace hv:V=.twice:=hv
     subst hv
     go_wp2
     go_ret3
     exact ⟨rfl,hbel.out⟩
  ·have hem:=empty_iff q S hS false (by cases q<;>first | rfl | exact absurd rfl hq0)
   rcases hs1:signL 59 q with _ | t
   ·have hv:=hVV.out
    rw [loopL_nosign n r F tw (by rw [hq.out];exact hq0) (by rw [hq.out];exact hs1)] at hv
    replace hv:V=.form:=hv
    subst hv
    have HS:=Lib.hid hs1
    clear hs1 hq0 hS
    rcases tw with _ | _
    all_goals
     go_wp2_with (go_at_call 56;refine (sign59 w.heap.size q _ hqm hbox.out none HS.out).mono ?_;rintro e w4 ⟨rfl,hb4,hg4⟩;clear HS;have HG4:=Lib.hid hg4;have HB4:=Lib.hid hb4;clear hb4 hg4)
     go_ret3
     exact ⟨rfl,hbel.out.trans (grown_below HG4.out (Nat.le_refl _) hbel.out.size)⟩
   ·have htl:t.length+1=q.length:=by have:=congrArg List.length (signL_len hs1);rw [List.length_cons] at this;exact this.symm
    have htm:t.length≤1000000:=by omega
    rcases hp1:paramL t with _ | ⟨p,r2⟩
    ·have hv:=hVV.out
     rw [loopL_noparam n r t F tw (by rw [hq.out];exact hq0) (by rw [hq.out];exact hs1) hp1] at hv
     replace hv:V=.form:=hv
     subst hv
     have HS:=Lib.hid hs1;have HP:=Lib.hid hp1
     clear hs1 hq0 hS hp1
     rcases tw with _ | _
     all_goals
      go_wp2_with (first | (go_at_call 56;refine (sign59 w.heap.size q _ hqm hbox.out (some t) HS.out).mono ?_;rintro e w4 ⟨rfl,hb4,hg4⟩;clear HS;have HG4:=Lib.hid hg4;have HB4:=Lib.hid hb4;clear hb4 hg4) | (go_at_call 57;refine (param_head w.heap.size t _ htm HB4.out none HP.out).mono ?_;rintro e w5 ⟨⟨a,b,rfl⟩,hg5⟩))
      go_ret3
      exact ⟨rfl,((hbel.out.trans (grown_below HG4.out (Nat.le_refl _) hbel.out.size)).trans (grown_below hg5 (Nat.le_refl _) (Nat.le_trans hbel.out.size HG4.out.size))).alloc (Nat.le_trans (Nat.le_trans hbel.out.size HG4.out.size) hg5.size) _⟩
    ·obtain ⟨hrl,hpl,hpv⟩:=paramL_len hp1
     dsimp only at hrl hpl hpv
     obtain ⟨K,hK⟩:∃ K:ByteArray,(⟨p.1.toArray⟩:ByteArray)=K:=⟨_,rfl⟩
     obtain ⟨X,hX⟩:∃ X:ByteArray,(⟨p.2.toArray⟩:ByteArray)=X:=⟨_,rfl⟩
     obtain ⟨q2,hq2⟩:∃ q2,r2.dropWhile blankC=q2:=⟨_,rfl⟩
     have hq2l:q2.length≤r2.length:=by have:=dropWhile_len blankC r2;rw [hq2] at this;exact this
     have hKs:K.size≤1000000:=by rw [← hK];show p.1.length≤_;omega
     have hFl:F.length≤1000000:=by omega
     have hFs2:∀ x∈F++[p],x.1.length≤1000000:=by
      intro x hx
      rcases List.mem_append.1 hx with h | h
      ·exact hFs.out x h
      ·rw [List.mem_singleton.1 h];omega
     have hsnoc:fldCells (F++[p])=fldCells F++[.string K,.string X]:=by rw [fldCells_snoc,hK,hX]
     have hKd:K.data.toList=p.1:=by rw [← hK]
     have hlp:(F++[p]).length=F.length+1:=by rw [List.length_append];rfl
     have hmes:q2.length<q.length:=by omega
     rcases hcb:F.any (fun x=>foldL p.1 == foldL x.1) with _ | _
     all_goals
      have hv:=hVV.out
      rw [loopL_step n r t r2 p F tw _ (by rw [hq.out];exact hq0) (by rw [hq.out];exact hs1) hp1 hcb] at hv
      have HVN:=Lib.hid hv
      have HS:=Lib.hid hs1;have HP:=Lib.hid hp1;have HKX:=Lib.hid (And.intro hK hX);have HQ2:=Lib.hid hq2;have HFS2:=Lib.hid hFs2;have HSN:=Lib.hid hsnoc;have HLP:=Lib.hid hlp
      have HCB:=Lib.hid hcb
      rw [← hKd] at HCB
      have HSS:=Lib.hid hS
     ·clear hs1 hq0 hS hp1 hcb hv hK hX hq2 hFs2 hsnoc hKd hlp
      rcases tw with _ | _
      all_goals
       go_wp2_with (first | (go_at_call 56;refine (sign59 w.heap.size q _ hqm hbox.out (some t) HS.out).mono ?_;rintro e w4 ⟨rfl,hb4,hg4⟩;clear HS;have HG4:=Lib.hid hg4;have HB4:=Lib.hid hb4;clear hb4 hg4) | (go_at_call 57;refine (param_head w.heap.size t _ htm HB4.out (some (p,r2)) HP.out).mono ?_;rintro e w5 ⟨rfl,hb5,hg5⟩;rw [HKX.out.1,HKX.out.2];have hbe5:=(hbel.out.trans (grown_below HG4.out (Nat.le_refl _) hbel.out.size)).trans (grown_below hg5 (Nat.le_refl _) (Nat.le_trans hbel.out.size HG4.out.size));have HO5:=Lib.hid (World.ownsRow.alloc (own_grown (own_grown hown.out HG4.out (Nat.lt_succ_self _)) hg5 (Nat.lt_succ_self _)) (.cells #[.string K,.string X] 85));have HB5:=Lib.hid (Boxed.alloc hb5 (.cells #[.string K,.string X] 85));have HPN:=Lib.hid (PairAt.new w5 85 K X);have hR5:w.heap.size+1≤w5.heap.size:=Boxed.lt hb5;have HBE5:=Lib.hid (hbe5.alloc hbe5.size (.cells #[.string K,.string X] 85));clear hb5 hg5 hbe5) | (go_at_call 58;refine (containsFunc_any w5.heap.size (w.heap.size+1) K X F _ false _ HPN.out HO5.out hKs hFl hFs.out HCB.out).mono ?_;rintro e w7 ⟨rfl,hb7⟩;have hP7:=HPN.out.below hb7;have c70:=hP7.cell0;have c71:=hP7.cell1;have HO7:=Lib.hid (own_below HO5.out hb7);have HB7:=Lib.hid ((hb7.block _ HB5.out.lt).trans HB5.out);have HBE7:=Lib.hid (HBE5.out.trans (hb7.mono HBE5.out.size));have hR7:w.heap.size+1≤w7.heap.size:=(by have:=hb7.size;simp at this;omega);clear hb7 hP7) | (at_builtin;refine push1 (by rfl) _ _ _ (by rfl) 85 _ 2 32 Tryd.underlying81 infoPair (by rfl) (by omega) (w.heap.size+1) w7 _ _ _ (by rfl) HO7.out [.string K,.string X] (by rfl) (by simp [Value.oneCell']) (by rfl) (by omega) (by omega) hR7 ?_;intro gg cap w8 hgg hown8 hgr8 hb8 hsz8;have HO8:=Lib.hid hown8;have HB8:=Lib.hid ((hb8.block _ (Nat.lt_succ_self _)).trans HB7.out);have HBE8:=Lib.hid (HBE7.out.trans (hb8.mono (Nat.le_succ _)));clear hown8 hgr8) | (go_at_call 54;refine (blanks_head w.heap.size r2 _ HB8.out q2 HQ2.out).mono ?_;rintro e w9 ⟨rfl,hb9,hg9⟩))
       go_roundw
       case rel=>exact ⟨n,q2,r2,F++[p],_,rfl,by omega,by rw [HLP.out];omega,HQ2,HFS2,HVN,Lib.hid (by rw [HSN.out,HLP.out];exact own_grown HO8.out hg9 (Nat.lt_succ_self _)),Lib.hid hb9,Lib.hid (HBE8.out.trans (grown_below hg9 (Nat.le_refl _) HBE8.out.size))⟩
       case measure=>rw [hcr,hb9.cell,← HSS.out];exact hmes
     ·clear hs1 hq0 hS hp1 hcb hv hK hX hq2 hFs2 hsnoc hKd hlp
      rcases tw with _ | _
      all_goals
       go_wp2_with (first | (go_at_call 56;refine (sign59 w.heap.size q _ hqm hbox.out (some t) HS.out).mono ?_;rintro e w4 ⟨rfl,hb4,hg4⟩;clear HS;have HG4:=Lib.hid hg4;have HB4:=Lib.hid hb4;clear hb4 hg4) | (go_at_call 57;refine (param_head w.heap.size t _ htm HB4.out (some (p,r2)) HP.out).mono ?_;rintro e w5 ⟨rfl,hb5,hg5⟩;rw [HKX.out.1,HKX.out.2];have hbe5:=(hbel.out.trans (grown_below HG4.out (Nat.le_refl _) hbel.out.size)).trans (grown_below hg5 (Nat.le_refl _) (Nat.le_trans hbel.out.size HG4.out.size));have HO5:=Lib.hid (World.ownsRow.alloc (own_grown (own_grown hown.out HG4.out (Nat.lt_succ_self _)) hg5 (Nat.lt_succ_self _)) (.cells #[.string K,.string X] 85));have HB5:=Lib.hid (Boxed.alloc hb5 (.cells #[.string K,.string X] 85));have HPN:=Lib.hid (PairAt.new w5 85 K X);have hR5:w.heap.size+1≤w5.heap.size:=Boxed.lt hb5;have HBE5:=Lib.hid (hbe5.alloc hbe5.size (.cells #[.string K,.string X] 85));clear hb5 hg5 hbe5) | (go_at_call 58;refine (containsFunc_any w5.heap.size (w.heap.size+1) K X F _ true _ HPN.out HO5.out hKs hFl hFs.out HCB.out).mono ?_;rintro e w7 ⟨rfl,hb7⟩;have hP7:=HPN.out.below hb7;have c70:=hP7.cell0;have c71:=hP7.cell1;have HO7:=Lib.hid (own_below HO5.out hb7);have HB7:=Lib.hid ((hb7.block _ HB5.out.lt).trans HB5.out);have HBE7:=Lib.hid (HBE5.out.trans (hb7.mono HBE5.out.size));have hR7:w.heap.size+1≤w7.heap.size:=(by have:=hb7.size;simp at this;omega);clear hb7 hP7) | (at_builtin;refine push1 (by rfl) _ _ _ (by rfl) 85 _ 2 32 Tryd.underlying81 infoPair (by rfl) (by omega) (w.heap.size+1) w7 _ _ _ (by rfl) HO7.out [.string K,.string X] (by rfl) (by simp [Value.oneCell']) (by rfl) (by omega) (by omega) hR7 ?_;intro gg cap w8 hgg hown8 hgr8 hb8 hsz8;have HO8:=Lib.hid hown8;have HB8:=Lib.hid ((hb8.block _ (Nat.lt_succ_self _)).trans HB7.out);have HBE8:=Lib.hid (HBE7.out.trans (hb8.mono (Nat.le_succ _)));clear hown8 hgr8) | (go_at_call 54;refine (blanks_head w.heap.size r2 _ HB8.out q2 HQ2.out).mono ?_;rintro e w9 ⟨rfl,hb9,hg9⟩))
       go_roundw
       case rel=>exact ⟨n,q2,r2,F++[p],_,rfl,by omega,by rw [HLP.out];omega,HQ2,HFS2,HVN,Lib.hid (by rw [HSN.out,HLP.out];exact own_grown HO8.out hg9 (Nat.lt_succ_self _)),Lib.hid hb9,Lib.hid (HBE8.out.trans (grown_below hg9 (Nat.le_refl _) HBE8.out.size))⟩
       case measure=>rw [hcr,hb9.cell,← HSS.out];exact hmes
end Go.Proofs.YtmpiobfdchlikaaDoor
end
section
namespace Go.Proofs.YtmpiobfdchlikaaDoor
open Go.RowKit Nun
theorem S_lst {s:Str}:(S s).data.toList=s:=by simp [S]
theorem c_nat2 (c:UInt8):((c.toNat:Nat):Int).toNat.toUInt8=c:=by
 rw [Int.toNat_natCast];simp
theorem below_same {w:World}:Below w.heap.size w w:=Below.refl _ _
def one (v:Value):TupRes:=⟨[v],none,[]⟩
def flt (l:List Value):TupRes:=⟨l,none,[]⟩
variable {Γ:Glob}
theorem tup_one {f:FuncId} {spec:List Value→Option TupRes} (hk:entersB Tryd.prog f=true) (h:∀ vs R,spec vs=some R→∃ l,R=flt l∧(∀ v∈l,flatV v=true)∧∀ w,Γ.G w→Calls Tryd.prog f vs.toArray w fun e w'=>e=.returned (tupV l)∧Below w.heap.size w w'):TupOk Tryd.prog Γ f spec:=⟨hk,fun vs R hs=>by
 obtain ⟨l,rfl,h1,h2⟩:=h vs R hs
 refine ⟨⟨fun v hv=>h1 v (by simpa [flt] using hv),fun c n z ty e=>by cases e⟩,fun w hw=>(h2 w hw).mono ?_⟩
 rintro e w' ⟨rfl,hb⟩
 exact ⟨.int .i64 0,by simp [flt,TupRes.vs],(fun c n z ty e=>by cases e),hb⟩⟩
def tIdx:List Value→Option TupRes
 | [.string s,.int .u8 c]=>some (flt [.int .i64 (Lib.indexByte s.data.toList c.toNat.toUInt8)])
 | _=>none
theorem tIdx_ok:TupOk Tryd.prog Γ 43 tIdx:=tup_one (by kernel_rfl) fun vs R h=>by
 unfold tIdx at h
 split at h
 ·cases h
  exact ⟨_,rfl,by simp [flatV],fun w _=>(Tryd.strings_IndexByte _ _ w).mono (by rintro e w' ⟨rfl,rfl⟩;exact ⟨rfl,below_same⟩)⟩
 ·cases h
def tPre:List Value→Option TupRes
 | [.string s,.string p]=>some (flt [.bool (Lib.hasPrefix s.data.toList p.data.toList)])
 | _=>none
theorem tPre_ok:TupOk Tryd.prog Γ 29 tPre:=tup_one (by kernel_rfl) fun vs R h=>by
 unfold tPre at h
 split at h
 ·cases h
  exact ⟨_,rfl,by simp [flatV],fun w _=>(Tryd.strings_HasPrefix _ _ w).mono (by rintro e w' ⟨rfl,rfl⟩;exact ⟨rfl,below_same⟩)⟩
 ·cases h
def tFold:List Value→Option TupRes
 | [.string s]=>if s.size≤1000000 then some (flt [.string (S (foldL s.data.toList))]) else none
 | _=>none
theorem tFold_ok:TupOk Tryd.prog Γ 28 tFold:=tup_one (by kernel_rfl) fun vs R h=>by
 unfold tFold at h
 split at h
 ·split at h
  ·rename_i hs
   cases h
   exact ⟨_,rfl,by simp [flatV],fun w _=>(fold_octet _ w hs).mono (by rintro e w' ⟨rfl,hb⟩;exact ⟨rfl,hb⟩)⟩
  ·cases h
 ·cases h
def tAlike:List Value→Option TupRes
 | [.string s,.string t]=>if s.size≤1000000∧t.size≤1000000 then some (flt [.bool (foldL s.data.toList == foldL t.data.toList)]) else none
 | _=>none
theorem tAlike_ok:TupOk Tryd.prog Γ 42 tAlike:=tup_one (by kernel_rfl) fun vs R h=>by
 unfold tAlike at h
 split at h
 ·split at h
  ·rename_i hs
   cases h
   exact ⟨_,rfl,by simp [flatV],fun w _=>(alike_any _ _ w hs.1 hs.2).mono (by rintro e w' ⟨rfl,hb⟩;exact ⟨rfl,hb⟩)⟩
  ·cases h
 ·cases h
def tCutP:List Value→Option TupRes
 | [.string s,.string p]=>some (flt [.string ⟨(Lib.trimPrefix s.data.toList p.data.toList).toArray⟩,.bool (Lib.hasPrefix s.data.toList p.data.toList)])
 | _=>none
theorem tCutP_ok:TupOk Tryd.prog Γ 49 tCutP:=tup_one (by kernel_rfl) fun vs R h=>by
 unfold tCutP at h
 split at h
 ·cases h
  exact ⟨_,rfl,by simp [flatV],fun w _=>(Tryd.strings_CutPrefix _ _ w).mono (by rintro e w' ⟨rfl,rfl⟩;exact ⟨rfl,below_same⟩)⟩
 ·cases h
def tDq:List Value→Option TupRes
 | [.string s]=>if s.size≤1000000 then some (match decL s.data.toList with
   | some t=>flt [.string (S t),.int .i64 0]
   | none=>flt [.string (S []),.int .i64 7]) else none
 | _=>none
theorem tDq_ok:TupOk Tryd.prog Γ 46 tDq:=tup_one (by kernel_rfl) fun vs R h=>by
 unfold tDq at h
 split at h
 ·rename_i s
  split at h
  ·rename_i hs
   have hc:=fun w=>decode_qp s w (by omega)
   cases hd:decL s.data.toList with
   | some t =>
     rw [hd] at h hc
     cases h
     exact ⟨_,rfl,by simp [flatV],fun w _=>(hc w).mono (by rintro e w' ⟨rfl,hb⟩;exact ⟨rfl,hb⟩)⟩
   | none =>
     rw [hd] at h hc
     cases h
     exact ⟨_,rfl,by simp [flatV],fun w _=>(hc w).mono (by rintro e w' ⟨rfl,hb⟩;exact ⟨rfl,hb⟩)⟩
  ·cases h
 ·cases h
def tUm:List Value→Option TupRes
 | [.string s]=>if s.size≤1000000 then some (match dec64 (bare s.data.toList) with
   | some t=>flt [.string (S t),.int .i64 0]
   | none=>flt [.string (S []),.int .i64 7]) else none
 | _=>none
theorem tUm_ok:TupOk Tryd.prog Γ 47 tUm:=tup_one (by kernel_rfl) fun vs R h=>by
 unfold tUm at h
 split at h
 ·rename_i s
  split at h
  ·rename_i hs
   have hc:=fun w=>unmail64 s w hs
   cases hd:dec64 (bare s.data.toList) with
   | some t =>
     rw [hd] at h hc
     cases h
     exact ⟨_,rfl,by simp [flatV],fun w _=>(hc w).mono (by rintro e w' ⟨rfl,hb⟩;exact ⟨rfl,hb⟩)⟩
   | none =>
     rw [hd] at h hc
     cases h
     exact ⟨_,rfl,by simp [flatV],fun w _=>(hc w).mono (by rintro e w' ⟨rfl,hb⟩;exact ⟨rfl,hb⟩)⟩
  ·cases h
 ·cases h
def tCut:List Value→Option TupRes
 | [.string s,.string p]=>if s.size≤1000000000 then some (flt [.string ⟨(Lib.cut s.data.toList p.data.toList).1.toArray⟩,.string ⟨(Lib.cut s.data.toList p.data.toList).2.1.toArray⟩,.bool (Lib.cut s.data.toList p.data.toList).2.2]) else none
 | _=>none
theorem tCut_ok (hG:∀ w,Γ.G w→MaxIs w):TupOk Tryd.prog Γ 38 tCut:=tup_one (by kernel_rfl) fun vs R h=>by
 unfold tCut at h
 split at h
 ·split at h
  ·rename_i hs
   cases h
   refine ⟨_,rfl,by simp [flatV],fun w hw=>?_⟩
   obtain ⟨m,hm⟩:=hG w hw
   exact (Tryd.strings_Cut _ _ m w (by omega) hm).mono (by rintro e w' ⟨rfl,n,rfl⟩;exact ⟨rfl,below_drewN' w n⟩)
  ·cases h
 ·cases h
def tInd:List Value→Option TupRes
 | [.string s,.string p]=>if s.size≤1000000000 then some (flt [.int .i64 (Lib.index s.data.toList p.data.toList)]) else none
 | _=>none
theorem tInd_ok (hG:∀ w,Γ.G w→MaxIs w):TupOk Tryd.prog Γ 50 tInd:=tup_one (by kernel_rfl) fun vs R h=>by
 unfold tInd at h
 split at h
 ·split at h
  ·rename_i hs
   cases h
   refine ⟨_,rfl,by simp [flatV],fun w hw=>?_⟩
   obtain ⟨m,hm⟩:=hG w hw
   exact (Tryd.strings_Index _ _ m w (by omega) hm).mono (by rintro e w' ⟨rfl,rfl⟩;exact ⟨rfl,below_same⟩)
  ·cases h
 ·cases h
def tRep:List Value→Option TupRes
 | [.string s,.string o,.string n]=>if s.size≤1000000∧1≤o.size∧n.size≤10 then some (flt [.string ⟨(Lib.replaceAll s.data.toList o.data.toList n.data.toList).toArray⟩]) else none
 | _=>none
theorem tRep_ok (hG:∀ w,Γ.G w→MaxIs w):TupOk Tryd.prog Γ 61 tRep:=tup_one (by kernel_rfl) fun vs R h=>by
 unfold tRep at h
 split at h
 ·rename_i s o n
  split at h
  ·rename_i hs
   cases h
   refine ⟨_,rfl,by simp [flatV],fun w hw=>?_⟩
   obtain ⟨m,hm⟩:=hG w hw
   have hcb:=Lib.countB_le o hs.2.1 s.size s (Nat.le_refl _)
   have hmul:Lib.countB s o * n.size≤1000000 * 10:=Nat.mul_le_mul (by omega) hs.2.2
   exact (Tryd.strings_ReplaceAll s o n m w (by omega) hm hs.2.1 (by omega)).mono (by rintro e w' ⟨rfl,hb⟩;exact ⟨rfl,hb⟩)
  ·cases h
 ·cases h
theorem fldCells_ok:∀ l:List Fld,∀ v∈fldCells l,flatV v=true∧v.oneCell'=true:=by
 intro l
 induction l with
 | nil=>intro v h;simp [fldCells] at h
 | cons a l ih =>
   intro v h
   simp only [fldCells,List.flatMap_cons,List.mem_append,List.mem_cons,List.not_mem_nil,or_false] at h
   rcases h with (rfl | rfl) | h
   ·exact ⟨rfl,rfl⟩
   ·exact ⟨rfl,rfl⟩
   ·exact ih v h
theorem fldCells_map:∀ l:List Fld,(fldCells l).map PV.flat=fcells l
 | []=>rfl
 | (a,b)::l=>by
   have h:=fldCells_map l
   simp only [fldCells,List.flatMap_cons,List.map_append,List.map_cons,List.map_nil,List.cons_append,List.nil_append,fcells] at h ⊢
   rw [h];rfl
def tSpl:List Value→Option TupRes
 | [.string s]=>if s.size≤10000 then some (match splitL s.data.toList with
   | .form=>⟨[],some ([],0,2,56),[.int .i64 0,.int .i64 7]⟩
   | .long=>⟨[],some ([],0,2,56),[.int .i64 0,.int .i64 6]⟩
   | .ok l b=>⟨[],some (fldCells l,l.length,2,56),[.int .i64 b,.int .i64 0]⟩) else none
 | _=>none
theorem tSpl_ok (hG:∀ w,Γ.G w→MaxIs w):TupOk Tryd.prog Γ 24 tSpl:=⟨by kernel_rfl,fun vs R h=>by
 unfold tSpl at h
 split at h
 ·rename_i s
  split at h
  ·rename_i hs
   have hc:=fun w hm=>split_any s w hm hs
   cases hV:splitL s.data.toList with
   | form =>
     rw [hV] at h hc
     cases h
     exact ⟨⟨by simp [flatV],fun c n z ty e=>by cases e;simp⟩,fun w hw=>(hc w (hG w hw)).mono (by rintro e w' ⟨rfl,hb⟩;exact ⟨.slice none 0 0,rfl,(fun c n z ty e=>by cases e;exact World.ownsRow_nil _ _ _ _),hb⟩)⟩
   | long =>
     rw [hV] at h hc
     cases h
     exact ⟨⟨by simp [flatV],fun c n z ty e=>by cases e;simp⟩,fun w hw=>(hc w (hG w hw)).mono (by rintro e w' ⟨rfl,hb⟩;exact ⟨.slice none 0 0,rfl,(fun c n z ty e=>by cases e;exact World.ownsRow_nil _ _ _ _),hb⟩)⟩
   | ok l b =>
     rw [hV] at h hc
     cases h
     exact ⟨⟨by simp [flatV],fun c n z ty e=>by cases e;exact fldCells_ok l⟩,fun w hw=>(hc w (hG w hw)).mono (by rintro e w' ⟨v,rfl,ho,hb⟩;exact ⟨v,rfl,(fun c n z ty e=>by cases e;exact ho),hb⟩)⟩
  ·cases h
 ·cases h⟩
def tPar:List Value→Option TupRes
 | [.string s]=>if s.size≤10000 then some (match paramsL s.data.toList with
   | .form=>⟨[.string (S [])],some ([],0,2,85),[.int .i64 7]⟩
   | .twice=>⟨[.string (S [])],some ([],0,2,85),[.int .i64 9]⟩
   | .ok m l=>⟨[.string (S m)],some (fldCells l,l.length,2,85),[.int .i64 0]⟩) else none
 | _=>none
theorem tPar_ok:TupOk Tryd.prog Γ 41 tPar:=⟨by kernel_rfl,fun vs R h=>by
 unfold tPar at h
 split at h
 ·rename_i s
  split at h
  ·rename_i hs
   cases hV:paramsL s.data.toList with
   | form =>
     have hc:=fun w=>params_any s w hs _ hV
     rw [hV] at h
     cases h
     exact ⟨⟨by simp [flatV],fun c n z ty e=>by cases e;simp⟩,fun w hw=>(hc w).mono (by rintro e w' ⟨rfl,hb⟩;exact ⟨.slice none 0 0,rfl,(fun c n z ty e=>by cases e;exact World.ownsRow_nil _ _ _ _),hb⟩)⟩
   | twice =>
     have hc:=fun w=>params_any s w hs _ hV
     rw [hV] at h
     cases h
     exact ⟨⟨by simp [flatV],fun c n z ty e=>by cases e;simp⟩,fun w hw=>(hc w).mono (by rintro e w' ⟨rfl,hb⟩;exact ⟨.slice none 0 0,rfl,(fun c n z ty e=>by cases e;exact World.ownsRow_nil _ _ _ _),hb⟩)⟩
   | ok m l =>
     have hc:=fun w=>params_any s w hs _ hV
     rw [hV] at h
     cases h
     exact ⟨⟨by simp [flatV],fun c n z ty e=>by cases e;exact fldCells_ok l⟩,fun w hw=>(hc w).mono (by rintro e w' ⟨v,rfl,ho,hb⟩;exact ⟨v,rfl,(fun c n z ty e=>by cases e;exact ho),hb⟩)⟩
  ·cases h
 ·cases h⟩
def ix2 (o:Option Nat):Int:=match o with
 | some i=>(i:Int)
 | none=>-1
theorem ix_at2 (c:UInt8):∀ s:Str,Lib.indexByte s c=ix2 (at1 c s)
 | []=>rfl
 | x::l=>by
   have h:=ix_at2 c l
   unfold Lib.indexByte at1
   by_cases hx:x=c
   ·subst hx
    all_goals (simp [ix2])
   ·have h1:(x == c)=false:=by simpa using hx
    rw [h1,h,if_neg hx]
    cases at1 c l with
    | none=>rfl
    | some i =>
      have:((i:Int) == -1)=false:=by
       rw [beq_eq_false_iff_ne];omega
      simp only [ix2,this,Bool.false_eq_true,if_false,Option.map_some]
      omega
def lib14:Nun.Callee:=both (tupLib 43 tIdx) (both (tupLib 29 tPre) (both (tupLib 28 tFold) (both (tupLib 42 tAlike) (both (tupLib 49 tCutP) (both (tupLib 46 tDq) (both (tupLib 47 tUm) (both (tupLib 38 tCut) (both (tupLib 50 tInd) (both (tupLib 61 tRep) (both (tupLib 24 tSpl) (tupLib 41 tPar)))))))))))
theorem lib14_ok (hG:∀ w,Γ.G w→MaxIs w):CallOk Tryd.prog Γ lib14:=both_ok (tupLib_ok (by decide) tIdx_ok) (both_ok (tupLib_ok (by decide) tPre_ok) (both_ok (tupLib_ok (by decide) tFold_ok) (both_ok (tupLib_ok (by decide) tAlike_ok) (both_ok (tupLib_ok (by decide) tCutP_ok) (both_ok (tupLib_ok (by decide) tDq_ok) (both_ok (tupLib_ok (by decide) tUm_ok) (both_ok (tupLib_ok (by decide) (tCut_ok hG)) (both_ok (tupLib_ok (by decide) (tInd_ok hG)) (both_ok (tupLib_ok (by decide) (tRep_ok hG)) (both_ok (tupLib_ok (by decide) (tSpl_ok hG)) (tupLib_ok (by decide) tPar_ok)))))))))))
theorem l14_idx:LibIdx lib14:=fun s c hs=>by
 unfold lib14
 have h:=tup_at (k:=43) (spec:=tIdx) (args:=[.flat (.string (S s)),.flat (.int .u8 (c.toNat:Nat))]) rfl rfl
 rw [both_l h,S_lst,c_nat2,ix_at2];rfl
theorem l14_pre:LibPre lib14:=fun s p hs hp=>by
 unfold lib14
 rw [both_r (tup_no (by decide))]
 have h:=tup_at (k:=29) (spec:=tPre) (args:=[.flat (.string (S s)),.flat (.string (S p))]) rfl rfl
 rw [both_l h,S_lst,S_lst];rfl
theorem l14_fold:LibFold lib14:=fun s hs=>by
 unfold lib14
 rw [both_r (tup_no (by decide))]
 rw [both_r (tup_no (by decide))]
 have h:=tup_at (k:=28) (spec:=tFold) (args:=[.flat (.string (S s))]) rfl (by unfold tFold;dsimp only;rw [S_size,if_pos hs,S_lst])
 rw [both_l h];rfl
theorem l14_alike:LibAlike lib14:=fun s t hs ht=>by
 unfold lib14
 rw [both_r (tup_no (by decide))]
 rw [both_r (tup_no (by decide))]
 rw [both_r (tup_no (by decide))]
 have h:=tup_at (k:=42) (spec:=tAlike) (args:=[.flat (.string (S s)),.flat (.string (S t))]) rfl (by unfold tAlike;dsimp only;rw [S_size,S_size,if_pos ⟨hs,ht⟩,S_lst,S_lst])
 rw [both_l h];rfl
theorem l14_cutp:LibCutP lib14:=fun s w hs=>by
 unfold lib14
 rw [both_r (tup_no (by decide))]
 rw [both_r (tup_no (by decide))]
 rw [both_r (tup_no (by decide))]
 rw [both_r (tup_no (by decide))]
 have h:=tup_at (k:=49) (spec:=tCutP) (args:=[.flat (.string (S s)),.flat (.string (S w))]) rfl rfl
 rw [both_l h,S_lst,S_lst];rfl
theorem l14_dq:LibDq lib14:=fun s hs=>by
 unfold lib14
 rw [both_r (tup_no (by decide))]
 rw [both_r (tup_no (by decide))]
 rw [both_r (tup_no (by decide))]
 rw [both_r (tup_no (by decide))]
 rw [both_r (tup_no (by decide))]
 have h:=tup_at (k:=46) (spec:=tDq) (args:=[.flat (.string (S s))]) rfl (by unfold tDq;dsimp only;rw [S_size,if_pos hs,S_lst])
 rw [both_l h]
 cases decL s with
 | some t=>rfl
 | none=>rfl
theorem l14_um:LibUm lib14:=fun s hs=>by
 unfold lib14
 rw [both_r (tup_no (by decide))]
 rw [both_r (tup_no (by decide))]
 rw [both_r (tup_no (by decide))]
 rw [both_r (tup_no (by decide))]
 rw [both_r (tup_no (by decide))]
 rw [both_r (tup_no (by decide))]
 have h:=tup_at (k:=47) (spec:=tUm) (args:=[.flat (.string (S s))]) rfl (by unfold tUm;dsimp only;rw [S_size,if_pos hs,S_lst])
 rw [both_l h]
 cases dec64 (bare s) with
 | some t=>rfl
 | none=>rfl
theorem l14_cut:LibCut lib14:=fun s w hs=>by
 unfold lib14
 rw [both_r (tup_no (by decide))]
 rw [both_r (tup_no (by decide))]
 rw [both_r (tup_no (by decide))]
 rw [both_r (tup_no (by decide))]
 rw [both_r (tup_no (by decide))]
 rw [both_r (tup_no (by decide))]
 rw [both_r (tup_no (by decide))]
 have h:=tup_at (k:=38) (spec:=tCut) (args:=[.flat (.string (S s)),.flat (.string (S w))]) rfl (by unfold tCut;dsimp only;rw [S_size,if_pos hs,S_lst,S_lst])
 rw [both_l h];rfl
theorem l14_ind:LibInd lib14:=fun s w hs=>by
 unfold lib14
 rw [both_r (tup_no (by decide))]
 rw [both_r (tup_no (by decide))]
 rw [both_r (tup_no (by decide))]
 rw [both_r (tup_no (by decide))]
 rw [both_r (tup_no (by decide))]
 rw [both_r (tup_no (by decide))]
 rw [both_r (tup_no (by decide))]
 rw [both_r (tup_no (by decide))]
 have h:=tup_at (k:=50) (spec:=tInd) (args:=[.flat (.string (S s)),.flat (.string (S w))]) rfl (by unfold tInd;dsimp only;rw [S_size,if_pos hs,S_lst,S_lst])
 rw [both_l h];rfl
theorem l14_rep:LibRep lib14:=fun s o n hs ho hn=>by
 unfold lib14
 rw [both_r (tup_no (by decide))]
 rw [both_r (tup_no (by decide))]
 rw [both_r (tup_no (by decide))]
 rw [both_r (tup_no (by decide))]
 rw [both_r (tup_no (by decide))]
 rw [both_r (tup_no (by decide))]
 rw [both_r (tup_no (by decide))]
 rw [both_r (tup_no (by decide))]
 rw [both_r (tup_no (by decide))]
 have h:=tup_at (k:=61) (spec:=tRep) (args:=[.flat (.string (S s)),.flat (.string (S o)),.flat (.string (S n))]) rfl (by unfold tRep;dsimp only;rw [S_size,S_size,S_size,if_pos ⟨hs,ho,hn⟩,S_lst,S_lst,S_lst])
 rw [both_l h];rfl
theorem l14_spl:LibSpl lib14:=fun s hs=>by
 unfold lib14
 rw [both_r (tup_no (by decide))]
 rw [both_r (tup_no (by decide))]
 rw [both_r (tup_no (by decide))]
 rw [both_r (tup_no (by decide))]
 rw [both_r (tup_no (by decide))]
 rw [both_r (tup_no (by decide))]
 rw [both_r (tup_no (by decide))]
 rw [both_r (tup_no (by decide))]
 rw [both_r (tup_no (by decide))]
 rw [both_r (tup_no (by decide))]
 have h:=tup_at (k:=24) (spec:=tSpl) (args:=[.flat (.string (S s))]) rfl (by unfold tSpl;dsimp only;rw [S_size,if_pos hs,S_lst])
 rw [both_l h]
 cases splitL s with
 | form=>rfl
 | long=>rfl
 | ok F b=>simp only [TupRes.pvs,fldCells_map];rfl
theorem l14_par:LibPar lib14:=fun s hs=>by
 unfold lib14
 rw [both_r (tup_no (by decide))]
 rw [both_r (tup_no (by decide))]
 rw [both_r (tup_no (by decide))]
 rw [both_r (tup_no (by decide))]
 rw [both_r (tup_no (by decide))]
 rw [both_r (tup_no (by decide))]
 rw [both_r (tup_no (by decide))]
 rw [both_r (tup_no (by decide))]
 rw [both_r (tup_no (by decide))]
 rw [both_r (tup_no (by decide))]
 rw [both_r (tup_no (by decide))]
 have h:=tup_at (k:=41) (spec:=tPar) (args:=[.flat (.string (S s))]) rfl (by unfold tPar;dsimp only;rw [S_size,if_pos hs,S_lst])
 rw [h]
 cases paramsL s with
 | form=>rfl
 | twice=>rfl
 | ok m F=>simp only [TupRes.pvs,fldCells_map];rfl
theorem lib14_L:LibL lib14:=⟨l14_idx,l14_pre,l14_fold,l14_alike,l14_rep,l14_dq,l14_um,l14_par,l14_cut,l14_cutp,l14_ind,l14_spl⟩
end Go.Proofs.YtmpiobfdchlikaaDoor
end
section
namespace Nun
open Go Go.RowKit Go.Proofs Go.Proofs.YtmpiobfdchlikaaDoor
variable {lib:Callee}
def parPre:CCode:=.reg [0,2,3] [] [⟨some 2,none,.alloc 26 [.flat (.slice none 0 0),.flat (.string ⟨#[]⟩),.flat (.string ⟨#[]⟩),.flat (.slice none 0 0)]⟩,⟨some 3,none,.alloc 27 [.flat (.int .i64 0)]⟩]
def parBody:CCode:=.seq (.reg [0,2,3,4] [] [⟨some 6,none,.build [.flat (.int .i64 0)] []⟩,⟨some 7,none,.box 48 1 (.t 6)⟩,⟨some 4,none,.asg (.t 7)⟩]) (.seq (.reg [2,3] [] [⟨some 8,none,.mv (.t 4)⟩,⟨some 9,none,.mv (.t 0)⟩,⟨some 10,none,.call 17 [.t 8,.t 9,.c (.flat (.int .i64 0))]⟩,⟨none,none,.store 4 (.t 2) (.t 10)⟩,⟨none,none,.store 1 (.t 3) (.c (.flat (.int .i64 0)))⟩]) (.ret [2,3]))
def parD:DFun:=⟨11,[.inr ⟨2,⟨true,4⟩⟩,.inr ⟨3,⟨false,1⟩⟩],parPre,5,16,[.t 2,.t 3],parBody⟩
theorem parD_ok:coDFun Tryd.prog [] [[0,2,3]] [[0,2,3,4],[2,3],[2,3]] 6=some parD:=by kernel_rfl
def boxP (j:Nat):Boxes:=[(26,zcells),(27,[.flat (.int .i64 0)]),(RT,rdr j)]
theorem boxP_at:BxAt boxP 3 2 RT rdr [(0,0),(0,3)] where
 len j:=rfl
 get j:=rfl
 set i j:=rfl
 lt:=by decide
 low j:=rfl
 hlt q hq:=by simp only [List.mem_cons,List.not_mem_nil,or_false] at hq;rcases hq with rfl | rfl<;>decide
 hne q hq:=by simp only [List.mem_cons,List.not_mem_nil,or_false] at hq;rcases hq with rfl | rfl<;>decide
theorem parse_evD (L:LibL lib) (s:Str) (hs:s.length≤10000) {p:LP} {m:Nat} (h:letterP 4 s 0=.ok (p,m)):EvD (evW code lib) big parD [.flat (.string (S s))] [] [] ([.agg p.cells,.flat (.int .i64 0)],false,[],[]):=by
 have hrec:=letter_ev L 4 0 rfl boxP 3 2 _ boxP_at s 0 p m hs (by decide) h
 obtain ⟨F',ty',tx',ps'⟩:=p
 have hl2:=fun n=>fcells_low (n:=n) F'
 have hl3:=fun n=>lcells_low (n:=n) ps'
 simp only [LP.cells] at hrec ⊢
 simp only [boxP,zcells,rdr,RT,cl_cons,cl_nil,n0] at hrec
 refine ⟨Nat.le_of_ble_eq_true rfl,.normal,⟨[(0,.flat (.string (S s))),(2,.ptr 0 0),(3,.ptr 1 0)],[.cell 0 0,.cell 0 3],[],[(26,zcells),(27,[.flat (.int .i64 0)])]⟩,?_,.ret,⟨[(2,.ptr 0 0),(3,.ptr 1 0)],[],[],[(26,[.slc F'.length (fcells F'),.flat (.string (S ty')),.flat (.string (S tx')),.slc ps'.length (lcells ps')]),(27,[.flat (.int .i64 0)]),(RT,rdr m)]⟩,?_,(fun i e=>by cases e),?_⟩
 ·unfold parD parPre zcells
  simp (maxSteps:=999999) (disch:=first | assumption | omega) only [go_sem,simprocAttr,au]
 ·unfold parD parBody DFun.mid zcells
  simp (maxSteps:=999999) (disch:=first | assumption | omega) only [go_sem,simprocAttr,au,hrec,rdr,hl2,hl3]
 ·have hlw:lows 0 [PV.agg [.slc F'.length (fcells F'),.flat (.string (S ty')),.flat (.string (S tx')),.slc ps'.length (lcells ps')],.flat (.int .i64 0)]=true:=by simp only [lows,PV.low,hl2,hl3,Bool.and_self]
  unfold parD finV
  have hv:([Sum.inr (2,true,4),Sum.inr (3,false,1)]:List (Sum Nat (Nat × Bool × Nat))).mapM (resV ⟨[(2,.ptr 0 0),(3,.ptr 1 0)],[],[],[(26,[.slc F'.length (fcells F'),.flat (.string (S ty')),.flat (.string (S tx')),.slc ps'.length (lcells ps')]),(27,[.flat (.int .i64 0)]),(RT,rdr m)]⟩)=some [.agg [.slc F'.length (fcells F'),.flat (.string (S ty')),.flat (.string (S tx')),.slc ps'.length (lcells ps')],.flat (.int .i64 0)]:=rfl
  dsimp only
  rw [hv,Option.map_some]
  simp [trim,hlw,cellsUpto,ownRes]
theorem nop_parse:NopOk Tryd.prog 16 2:=by
 intro cvs w h
 match cvs,h with
 | [p,q],_ =>
 refine callsDIn_of_wpSIn Tryd.func16 rfl trivial fun c₀ cs hu=>?_
 simp only [Tryd.ntmps16,List.size_toArray,List.length_cons,List.length_nil,Nat.reduceAdd,Nat.reduceSub,Array.replicate_succ,Array.replicate_zero,List.push_toArray,List.append_toArray,List.nil_append,List.cons_append]
 apply wpSIn_seq
 apply wpSIn_region
 simp [wpOpsSIn,go_sem,recoverD,hu,Exit.thenS]
 apply wpSIn_seq
 apply wpSIn_seq
 apply wpSIn_region
 simp [wpOpsSIn,go_sem,Exit.thenS]
 refine wpSIn_cond (t:=true) (by simp [Act.eval]) ?_
 simp only [if_true]
 refine wpSIn_of_wpIn rfl (wpIn_ret ?_)
 cases c₀
 simp_all [bodyPostS,results,Tryd.results16,Exit.thenS]
theorem parse_un (cf:Callee) (n:Nat) (D:DFun) {args:List PV} {bx:Boxes} {oc:List Nun.Loc} {r r':Ans} (h:EvD cf n D args bx oc r) (k:EvD cf n D args bx oc r'):r=r':=by
 obtain ⟨_,o,s1,h1,h2⟩:=h
 obtain ⟨_,o',s1',k1,k2⟩:=k
 rw [h1] at k1
 cases k1
 cases o with
 | exit i=>exact h2.elim
 | ret=>rw [h2] at k2;exact Option.some.inj k2
 | normal =>
   obtain ⟨o2,st,m1,m2,m3⟩:=h2
   obtain ⟨o3,st',l1,l2,l3⟩:=k2
   rw [m1] at l1
   cases l1
   rw [m3] at l3
   exact Option.some.inj l3
open Classical in
noncomputable def parseLib (lib:Callee):Callee:=fun f args bx oc=>if h:f=6∧∃ r,EvD (evW code lib) big parD args bx oc r then some (choose h.2) else none
theorem parseLib_eq {args:List PV} {bx:Boxes} {oc:List Nun.Loc} {r:Ans} (h:EvD (evW code lib) big parD args bx oc r):parseLib lib 6 args bx oc=some r:=by
 unfold parseLib
 rw [dif_pos ⟨rfl,r,h⟩]
 congr 1
 exact parse_un _ _ _ (Classical.choose_spec (⟨r,h⟩:∃ r,EvD (evW code lib) big parD args bx oc r)) h
theorem parseLib_ok {Γ:Glob} (hL:CallOk Tryd.prog Γ lib):CallOk Tryd.prog Γ (parseLib lib):=by
 intro f args bx oc vs' os bx' oc' he
 unfold parseLib at he
 split at he
 case isFalse=>cases he
 rename_i h
 obtain ⟨rfl,hr⟩:=h
 have hc:=Classical.choose_spec hr
 rw [Option.some.inj he] at hc
 intro w Fr β vs hp
 exact evD_ok Tryd.checked.mixed (by kernel_rfl) (evW_ok Tryd.checked.mixed (by kernel_rfl) code_ok hL) parD_ok nop_parse hc hp
end Nun
end

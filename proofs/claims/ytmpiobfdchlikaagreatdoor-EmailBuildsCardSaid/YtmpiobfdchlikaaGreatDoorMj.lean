/- EmailBuilds answers true for every mail and every text, where the table of base64 is laid az start-up lays it: texts of this proof, merged. -/
import Derived.Test.YtmpiobfdchlikaaGreatDoorMi
import Derived.Lib.IndexMore
import Derived.Lib.SlTrimSet
import Derived.Shelf.Strings.SlTrimAscii
import Derived.Laws.OwnMore
import Derived.Laws.IdiomStrings
import Derived.IntWalk
import Derived.Deep.RegionHeld3
import Derived.Deep.AppendLies
import Derived.StillTactics
import Derived.OwnWalk
import Derived.Test.YtmpiobfdchlikaaGreatDoorRows
import Derived.LaidMore
import Derived.ProofKit
import Derived.OpenShut
import Derived.Stop.Joined
import Derived.Handed
import Derived.HandedShaped
import Derived.Test.YtmpiobfdchlikaaGreatDoorTie
import Derived.Test.YtmpiobfdchlikaaGreatDoorCards
import Derived.SevenTiedAt
set_option linter.all false
section
namespace Nun
def est (st:Nat × List UInt8) (p:List UInt8):Nat × List UInt8 :=
 if p=[] then (0,st.2++[13,10]) else if p.length≤75 - st.1 then (st.1+p.length,st.2++p) else (p.length,st.2++[61,13,10]++p)
def estL (ps:List (List UInt8)):Nat × List UInt8:=ps.foldl est (0,[])
theorem estL_snoc (ps:List (List UInt8)) (p:List UInt8):estL (ps++[p])=est (estL ps) p:=by simp [estL]
theorem est_bd {st:Nat × List UInt8} {p:List UInt8} {n:Nat} (hp:p.length≤3) (h:st.1≤75∧st.2.length≤6 * n):(est st p).1≤75∧(est st p).2.length≤6 * (n+1):=by
 unfold est
 split
 ·simp;omega
 ·split
  ·simp;omega
  ·simp;omega
theorem foldl_bd (ps:List Short):∀ (st:Nat × List UInt8) (n:Nat),(st.1≤75∧st.2.length≤6 * n)→((ps.map Short.bytes).foldl est st).1≤75∧((ps.map Short.bytes).foldl est st).2.length≤6 * (n+ps.length):=by
 induction ps with
 | nil=>intro st n h;simpa using h
 | cons x l ih =>
   intro st n h
   have:=ih (est st x.bytes) (n+1) (est_bd x.2 h)
   simp only [List.map_cons,List.foldl_cons,List.length_cons]
   rw [show n+(l.length+1)=n+1+l.length by omega]
   exact this
theorem estL_bd (ps:List Short):(estL (ps.map Short.bytes)).1≤75∧(estL (ps.map Short.bytes)).2.length≤6 * ps.length:=by
 have:=foldl_bd ps (0,[]) 0 (by simp)
 simpa [estL] using this
theorem estL_enc (s:List UInt8):∀ k,k≤s.length→encL 0 s=(estL ((List.range k).map (pcAt s))).2++encL (estL ((List.range k).map (pcAt s))).1 (s.drop k)∧(estL ((List.range k).map (pcAt s))).1≤75:=by
 intro k
 induction k with
 | zero=>intro _;simp [estL]
 | succ k ih =>
   intro hk
   obtain ⟨h1,h2⟩:=ih (by omega)
   rw [List.range_succ,List.map_append,List.map_singleton,estL_snoc]
   generalize estL ((List.range k).map (pcAt s))=st at h1 h2
   have hlt:k<s.length:=by omega
   unfold pcAt
   rw [List.getElem?_eq_getElem hlt]
   simp only
   by_cases h10:s[k]=10
   ·rw [if_pos h10]
    unfold est
    rw [if_pos rfl,h1,encL_nl hlt h10];simp
   ·rw [if_neg h10]
    have hp:=piece_len s[k] (s.drop (k+1))
    generalize hpp:piece s[k] (s.drop (k+1))=p at hp
    unfold est
    rw [if_neg (by intro h;rw [h] at hp;simp at hp)]
    by_cases hl:p.length≤75 - st.1
    ·rw [if_pos hl,h1,encL_on hlt h10 hpp (by omega)];simp;omega
    ·rw [if_neg hl,h1,encL_wrap hlt h10 hpp (by omega)];simp;omega
theorem estL_all (s:List UInt8):(estL ((List.range s.length).map (pcAt s))).2=encL 0 s:=by
 have:=(estL_enc s s.length (Nat.le_refl _)).1
 rw [List.drop_of_length_le (Nat.le_refl _)] at this
 simpa [encL] using this.symm
end Nun
namespace Go.Proofs.YtmpiobfdchlikaaGreatDoor
open Go.RowKit Nun
attribute [local go_sem] Oper.semAt_some
theorem Bd.own {β:Type} (B b:Nat) (f:β→List UInt8):Own (fun (s:β) W=>Bd B b (f s) W):=by
 intro s W W' row h hg hr
 have kk:∀ p,Lib.BuilderAtF 59 5 B b p (Lib.byteCells (f s)) W→Lib.BuilderAtF 59 5 B b p (Lib.byteCells (f s)) W':=by
  rintro p ⟨hB,v,hb,hown,hne⟩
  have ne:∀ g o,W.heap[g]? =some o→o.isCells=true→some g≠row:=by
   intro g o hgo hoc e
   obtain ⟨o',ho',hc'⟩:=hr g e.symm
   rw [hgo] at ho';cases ho';rw [hoc] at hc';cases hc'
  refine ⟨hB,v,(hg.block b (Array.getElem?_eq_some_iff.1 hb).1 (ne b _ hb rfl)).trans hb,hown.kept hg ?_,hne⟩
  rcases hv:v.ownBlock with _ | g
  ·exact .inl rfl
  ·obtain ⟨c,fz,hgg⟩:=Lib.ownsRowF_kind hown g hv
   exact .inr (ne g _ hgg rfl)
 rcases h with h | h
 ·exact .inl (kk _ h)
 ·exact .inr (kk _ h)
theorem Bd.set {B b k:Nat} {l:List UInt8} {w:World} {t:TypeId} {v:Value} (v':Value) (h:Bd B b l w) (hbx:Boxed w k t v) (hkb:k≠b) (ht:t≠5):Bd B b l (w.setCell ⟨k,0,none⟩ v'):=by
 have kk:∀ p,Lib.BuilderAtF 59 5 B b p (Lib.byteCells l) w→Lib.BuilderAtF 59 5 B b p (Lib.byteCells l) (w.setCell ⟨k,0,none⟩ v'):=by
  rintro p ⟨hB,v,hb,hown,hne⟩
  exact ⟨hB,v,(Below.heap_setCell _ _ _ _ (fun e=>hkb e.symm)).trans hb,hown.kept (row:=some k) ⟨rfl,rfl,rfl,by simp [World.setCell],fun i _ hi=>Below.heap_setCell _ _ _ _ (fun e=>hi (by simp [e]))⟩ (.inr (Lib.ownBlock_neF hown hbx ht)),hne⟩
 rcases h with h | h
 ·exact .inl (kk _ h)
 ·exact .inr (kk _ h)
theorem boxed_kept {e b k:Nat} {t:TypeId} {v:Value} {w w':World} (h:Lib.OthersKept e (some b) w w') (hb:Boxed w k t v) (hkb:k≠b) (ht:t≠e):Boxed w' k t v :=
 h k _ hb (fun e=>hkb (by cases e;rfl)) (fun c fz e=>by cases e;exact ht rfl)
theorem Bd.isCells {B b:Nat} {l:List UInt8} {w:World} (h:Bd B b l w):∃ o:Obj,w.heap[b]? =some o∧o.isCells=true:=by
 rcases h with ⟨_,v,hb,_⟩ | ⟨_,v,hb,_⟩<;>exact ⟨_,hb,rfl⟩
set_option maxHeartbeats 400000 in
theorem pieces_any (s:ByteArray) (w:World):Calls Tryz.prog 96 #[.string s] w fun e w'=>e=.returned (.func (.func 152) #[] #[.pointer (some ⟨w.heap.size,0,none⟩)])∧w'=w.alloc (.cells #[.string s] 9):=by
 go_enter Tryz.func96,Tryz.ntmps96
 go_wp2
 go_ret
 exact ⟨rfl,rfl⟩
set_option maxHeartbeats 2000000 in
set_option maxRecDepth 100000 in
theorem enc_qp (s:ByteArray) (w:World) (hs:s.size≤1000000):Calls Tryz.prog 48 #[.string s] w (Ret (.string ⟨(encL 0 s.data.toList).toArray⟩) w):=by
 refine (callsIn_wide (n:=3)).1 ?_
 refine callsIn_of_wp_marks Tryz.func48 rfl trivial ?_ rfl
 simp only [Tryz.ntmps48,List.size_toArray,List.length_cons,List.length_nil,Nat.reduceAdd,Nat.reduceSub,Array.replicate_succ,Array.replicate_zero,List.push_toArray,List.append_toArray,List.nil_append,List.cons_append]
 gi_wp2_with (refine ⟨trivial,?_⟩;gi_at_call 96;refine (callsIn_wide.2 (pieces_any _ _)).mono ?_;rintro e w' ⟨rfl,rfl⟩)
 have hB0:Below w.heap.size w (((w.alloc (.cells #[.pointer none,.slice none 0 0] 59)).alloc (.cells #[.int .i64 0] 3)).alloc (.cells #[.string s] 9)):=(((Below.refl _ w).alloc (Nat.le_refl _) _).alloc (by simp) _).alloc (by simp;omega) _
 have hbd0:Bd w.heap.size w.heap.size [] (((w.alloc (.cells #[.pointer none,.slice none 0 0] 59)).alloc (.cells #[.int .i64 0] 3)).alloc (.cells #[.string s] 9)):=((Bd.fresh w).alloc _).alloc _
 have hl0:Boxed (((w.alloc (.cells #[.pointer none,.slice none 0 0] 59)).alloc (.cells #[.int .i64 0] 3)).alloc (.cells #[.string s] 9)) (w.heap.size+1) 3 (.int .i64 0):=by
  have:=Boxed.new (w.alloc (.cells #[.pointer none,.slice none 0 0] 59)) 3 (.int .i64 0)
  rw [World.size_alloc] at this
  exact this.alloc _
 have hs0:Boxed (((w.alloc (.cells #[.pointer none,.slice none 0 0] 59)).alloc (.cells #[.int .i64 0] 3)).alloc (.cells #[.string s] 9)) (w.heap.size+1+1) 9 (.string s):=by
  have:=Boxed.new ((w.alloc (.cells #[.pointer none,.slice none 0 0] 59)).alloc (.cells #[.int .i64 0] 3)) 9 (.string s)
  rw [World.size_alloc,World.size_alloc] at this
  exact this
 refine wpIn_rangeFunc_ownF rfl (by omega) (gf:=152) (lb:=#[.pointer (some ⟨w.heap.size+1+1,0,none⟩)]) rfl trivial (enters_of Tryz.func152 (by kernel_rfl) rfl)
  (pieces_stops _ (by omega) s hs (w.heap.size+1+1) _ hs0) keepsAt_t (keepsAt_b (by simp)) (Below.refl _ _) (fun _=>rfl)
  (fun pre W=>(Bd w.heap.size w.heap.size (estL (pre.map Short.bytes)).2 W∧Boxed W (w.heap.size+1) 3 (.int .i64 (estL (pre.map Short.bytes)).1)∧Boxed W (w.heap.size+1+1) 9 (.string s))∧Below w.heap.size w W)
  (fun _ _ _=>False)
  (OwnFrom.and (OwnFrom.and (Own.from (Bd.own _ _ _) _) (OwnFrom.and (Own.from (boxed_own _ _ _) _) (Own.from (boxed_own _ _ _) _))) (ownFrom_below (Nat.le_refl _) (by simp;omega)))
  (fun _ _ _ _ _ hs _ _=>hs)
  ⟨⟨hbd0,hl0,hs0⟩,hB0⟩
  (fun x=>{ tmps:=#[.string s,undef,.string ⟨#[]⟩,.pointer (some ⟨w.heap.size,0,none⟩),.pointer (some ⟨w.heap.size+1,0,none⟩),.string x.1,.string s,
    .func (.func 152) #[] #[.pointer (some ⟨w.heap.size+1+1,0,none⟩)],.string x.1,undef,undef,undef,undef,undef,undef,undef,undef,undef,undef,undef,undef,undef,undef,undef,undef],defers:=[] }) ?assign ?body ?done ?stop
 case assign =>
  intro l x W K hK
  gi_wp2
  exact hK
 case body =>
  rintro l pre x W ⟨⟨hbd,hbx,hsx⟩,hB⟩ hlen
  have hbnd:=estL_bd pre
  have hc:=hbx.cell
  have hf:=hbx.frozen
  have hst:estL ((pre++[x]).map Short.bytes)=est (estL (pre.map Short.bytes)) x.bytes:=by rw [List.map_append,List.map_singleton,estL_snoc]
  generalize hst0:estL (pre.map Short.bytes)=st at hbd hbx hbnd hc hst
  obtain ⟨line,out⟩:=st
  obtain ⟨hb1,hb2⟩:=hbnd
  dsimp only at hbd hbx hb1 hb2 hc
  have HBX:=Lib.hid hbx;have HSX:=Lib.hid hsx;have HST:=Lib.hid hst;clear hbx hsx hst hst0
  obtain ⟨p,hp⟩:=x
  simp only [Short.bytes] at HST
  have hcl:=hbd.isCells
  have HCL:=Lib.hid hcl;clear hcl
  have hlen2:p.data.toList.length=p.size:=rfl
  have HL:=Lib.hid hlen2;clear hlen2
  dsimp only
  by_cases he:p.data.toList=[]
  ·obtain rfl:p=⟨#[]⟩:=by cases p with | mk d=>cases d with | mk l=>simp at he;subst he;rfl
   clear he
   gi_wp2
   refine wpIn_scope_once 0 (fun _ _=>False) rfl (fun l a w h=>h.2.elim) ?_ (fun _ _ h=>h.elim)
   gi_wp2_with (first | (refine ⟨trivial,?_⟩;gi_at_call 47;refine (CallsIn.inRound l (callsIn_wide.2 (bd_string _ _ _ _ _ hbd (by show out.length+2≤_;omega)))).mono ?_;rintro e w2 ⟨rfl,hbd2,hbw2,hkw2⟩;have hxw2:=boxed_kept hkw2 HBX.out (by simp) (by decide);have hcw2:=Boxed.cell hxw2;have hfw2:=Boxed.frozen hxw2;have HXw2:=Lib.hid hxw2;clear hxw2))
   exact ⟨(keeps_kept hbw2.size hkw2 HCL.out).trans (KeepsOthers.setCell _ _ _),(Below.heap_setCell _ _ _ _ (by simp<;>omega)).trans ((boxed_kept hkw2 HSX.out (by simp<;>omega) (by decide)).trans HSX.out.symm),⟨by rw [HST.out];exact hbd2.set _ HXw2.out (by simp<;>omega) (by decide),by rw [HST.out];exact HXw2.out.set _,(Below.heap_setCell _ _ _ _ (by simp<;>omega)).trans (boxed_kept hkw2 HSX.out (by simp<;>omega) (by decide))⟩,(hB.trans hbw2).setCell (p:=⟨w.heap.size+1,0,none⟩) (by simp) _⟩
  ·have HE:=Lib.hid he;clear he
   have e1:p.toList=[] ↔ False:=by rw [Lib.toList_data];exact iff_of_false HE.out id
   have e2:p.toList.isEmpty=false:=by
    rw [Lib.toList_data]
    cases h:p.data.toList with
    | nil=>exact absurd h HE.out
    | cons _ _=>rfl
   by_cases hfit:p.size≤75 - line
   ·have i1:(p.size:Int)≤75 - (line:Int):=by omega
    gi_wp2
    refine wpIn_scope_once 0 (fun _ _=>False) rfl (fun l a w h=>h.2.elim) ?_ (fun _ _ h=>h.elim)
    gi_wp2
    refine wpIn_label ?_
    gi_wp2_with (first | (refine ⟨trivial,?_⟩;gi_at_call 47;refine (CallsIn.inRound l (callsIn_wide.2 (bd_string _ _ _ _ _ hbd (by omega)))).mono ?_;rintro e w2 ⟨rfl,hbd2,hbw2,hkw2⟩;have hxw2:=boxed_kept hkw2 HBX.out (by simp) (by decide);have hcw2:=Boxed.cell hxw2;have hfw2:=Boxed.frozen hxw2;have HXw2:=Lib.hid hxw2;clear hxw2))
    have HI:est (line,out) p.data.toList=(line+p.size,out++p.data.toList):=by
     unfold est;rw [if_neg HE.out,if_pos (by rw [HL.out];exact hfit),HL.out]
    have hs2:=boxed_kept hkw2 HSX.out (by omega) (by decide)
    exact ⟨(keeps_kept hbw2.size hkw2 HCL.out).trans (KeepsOthers.setCell _ _ _),(Below.heap_setCell _ _ _ _ (by simp<;>omega)).trans (hs2.trans HSX.out.symm),⟨by rw [HST.out,HI];exact hbd2.set _ HXw2.out (by simp) (by decide),by rw [HST.out,HI];exact HXw2.out.set _,(Below.heap_setCell _ _ _ _ (by simp<;>omega)).trans hs2⟩,(hB.trans hbw2).setCell (p:=⟨w.heap.size+1,0,none⟩) (by simp) _⟩
   ·have i1:decide ((p.size:Int)≤75 - (line:Int))=false:=by simp;omega
    have HI:est (line,out) p.data.toList=(p.size,out++[61,13,10]++p.data.toList):=by
     unfold est;rw [if_neg HE.out,if_neg (by rw [HL.out];exact hfit),HL.out]
    have HII:=Lib.hid HI;clear HI
    gi_wp2
    refine wpIn_scope_once 0 (fun a' W'=>a'={ tmps:=#[.string s,undef,.string ⟨#[]⟩,.pointer (some ⟨w.heap.size,0,none⟩),.pointer (some ⟨w.heap.size+1,0,none⟩),.string p,.string s,
     .func (.func 152) #[] #[.pointer (some ⟨w.heap.size+1+1,0,none⟩)],.string p,.string p,.bool false,undef,.string p,.int .i64 p.size,.int .i64 line,.int .i64 (75 - line),.bool false,undef,undef,undef,undef,undef,undef,.tuple #[.int .i64 3,.nilIface],undef],defers:=[] } ∧
     Bd w.heap.size w.heap.size (out++[61,13,10]) W'∧Boxed W' (w.heap.size+1) 3 (.int .i64 0)∧Boxed W' (w.heap.size+1+1) 9 (.string s)∧KeepsOthers W W'∧Below w.heap.size w W') rfl (fun l a w h=>h.2.elim) ?_ ?_
    ·gi_wp2
     refine wpIn_label ?_
     gi_wp2_with (first | (refine ⟨trivial,?_⟩;gi_at_call 47;refine (CallsIn.inRound l (callsIn_wide.2 (bd_string _ _ _ _ _ hbd (by show out.length+3≤_;omega)))).mono ?_;rintro e w2 ⟨rfl,hbd2,hbw2,hkw2⟩;have hxw2:=boxed_kept hkw2 HBX.out (by simp) (by decide);have hcw2:=Boxed.cell hxw2;have hfw2:=Boxed.frozen hxw2;have HXw2:=Lib.hid hxw2;clear hxw2))
     have hs2:=boxed_kept hkw2 HSX.out (by omega) (by decide)
     refine wpIn_goto ?_
     exact ⟨rfl,rfl,hbd2.set _ HXw2.out (by simp) (by decide),HXw2.out.set _,(Below.heap_setCell _ _ _ _ (by simp<;>omega)).trans hs2,(keeps_kept hbw2.size hkw2 HCL.out).trans (KeepsOthers.setCell _ _ _),(hB.trans hbw2).setCell (p:=⟨w.heap.size+1,0,none⟩) (by simp) _⟩
    ·rintro a' W' ⟨rfl,hbd3,hbx3,hsx3,hk3,hB3⟩
     clear hc hf
     have hc3:=hbx3.cell
     have hf3:=hbx3.frozen
     have HX3:=Lib.hid hbx3;have HS3:=Lib.hid hsx3;clear hbx3 hsx3
     have i2:(p.size:Int)≤75:=by omega
     gi_wp2_with (first | (refine ⟨trivial,?_⟩;gi_at_call 47;refine (CallsIn.inRound l (callsIn_wide.2 (bd_string _ _ _ _ _ hbd3 (by simp;omega)))).mono ?_;rintro e w4 ⟨rfl,hbd4,hbw4,hkw4⟩;have hxw4:=boxed_kept hkw4 HX3.out (by simp) (by decide);have hcw4:=Boxed.cell hxw4;have hfw4:=Boxed.frozen hxw4;have HXw4:=Lib.hid hxw4;clear hxw4))
     have hs4:=boxed_kept hkw4 HS3.out (by omega) (by decide)
     exact ⟨hk3.trans ((keeps_kept hbw4.size hkw4 hbd3.isCells).trans (KeepsOthers.setCell _ _ _)),(Below.heap_setCell _ _ _ _ (by simp<;>omega)).trans (hs4.trans HSX.out.symm),⟨by rw [HST.out,HII.out];exact hbd4.set _ HXw4.out (by simp) (by decide),by rw [HST.out,HII.out];exact HXw4.out.set _,(Below.heap_setCell _ _ _ _ (by simp<;>omega)).trans hs4⟩,(hB3.trans hbw4).setCell (p:=⟨w.heap.size+1,0,none⟩) (by simp) _⟩
 case done =>
  rintro D ys W hD hS ⟨⟨hbd,hbx,hsx⟩,hB⟩ hK
  have HK:=Lib.hid hK;clear hK
  have HBX:=Lib.hid hbx;have HSX:=Lib.hid hsx;clear hbx hsx
  gi_wp2_with (first | (refine ⟨trivial,?_⟩;gi_at_call 28;refine (callsIn_wide.2 (bd_text _ _ _ _ hbd)).mono ?_;rintro e w2 ⟨rfl,hbd2,hb2,hk2⟩))
  have hcl:=hbd.isCells
  have hK2:=(keeps_kept hb2.size hk2 hcl).same D _ HK.out rfl
  refine ⟨by simp,.inl ⟨_,_,rfl,run_takeDeferred hK2,?_⟩⟩
  have hfin:(⟨(estL ((List.range s.size).map (pcAt s.data.toList))).2.toArray⟩:ByteArray)=⟨(encL 0 s.data.toList).toArray⟩:=by rw [show s.size=s.data.toList.length from rfl,estL_all]
  exact ⟨_,results_tmp (t:=2) rfl _ _ _,congrArg (fun z=>Ending.returned (.string z)) hfin,(hB.trans hb2).trans (belowK_b (w:=w) (Nat.le_refl _) _ D _ _ (by simp at hD;omega) hK2 rfl rfl)⟩
 case stop =>
  rintro D c pre W _ _ h _
  exact h.elim
end Go.Proofs.YtmpiobfdchlikaaGreatDoor
end
section
namespace Go.Proofs.YtmpiobfdchlikaaGreatDoor
open Go.RowKit Nun
def oneF (k:FuncId) (g:List Value→Option Value):FuncId→List Value→Option Value:=fun f vs=>if f=k then g vs else none
theorem oneF_ok {Γ:Glob} {k:FuncId} {g:List Value→Option Value} (hk:k≠yldF) (h:FlatOk Tryz.prog Γ k g):CallOk Tryz.prog Γ (flatLib (oneF k g)):=flatLib_ok (fun f vs v hv=>by
 unfold oneF at hv
 split at hv
 ·rename_i e;rw [e];exact hk
 ·cases hv) (fun f vs v hv=>by
 have e:f=k:=by
  unfold oneF at hv
  split at hv
  ·assumption
  ·cases hv
 subst e
 have:oneF f g f=g:=by funext vs;unfold oneF;rw [if_pos rfl]
 rw [this];exact h)
theorem oneF_at {k:FuncId} {g:List Value→Option Value} {args:List PV} {vs:List Value} {v:Value} (h1:flats args=some vs) (h2:g vs=some v):flatLib (oneF k g) k args [] []=some ([.flat v],false,[],[]):=by
 unfold flatLib oneF
 dsimp only
 rw [h1,Option.bind_some,if_pos rfl,h2];rfl
theorem oneF_no {k f:FuncId} {g:List Value→Option Value} {args:List PV} (h:f≠k):flatLib (oneF k g) f args [] []=none:=by
 unfold flatLib oneF
 dsimp only
 cases flats args with
 | none=>rfl
 | some vs=>rw [Option.bind_some,if_neg h];rfl
def G36 (w:World):Prop:=(∃ m,w.cell? ⟨0,0,none⟩=some (.int .i64 m))∧Tab w
def Γ36:Glob where
 D g:=g=0∨g=1
 G:=G36
 lt w h g hg:=by
  rcases hg with rfl | rfl
  ·obtain ⟨m,hm⟩:=h.1;exact World.block_lt_of_cell? w _ hm
  ·exact h.2.lt
 keep w w' h hk:=by
  obtain ⟨⟨m,hm⟩,ht⟩:=h
  refine ⟨⟨m,?_⟩,fun i hi=>?_⟩
  ·unfold World.cell? at hm ⊢;rw [hk _ (.inl rfl)];exact hm
  ·have:=ht i hi;unfold World.cell? at this ⊢;rw [hk _ (.inr rfl)];exact this
def sIdx:List Value→Option Value
 | [.string s,.int .u8 c]=>if s.size≤1000000000 then some (.int .i64 (Lib.indexByte s.data.toList c.toNat.toUInt8)) else none
 | _=>none
def sLast:List Value→Option Value
 | [.string s,.int .u8 c]=>if s.size≤1000000000 then some (.int .i64 (Lib.lastIndexByte s c)) else none
 | _=>none
def sCon:List Value→Option Value
 | [.string s,.string p]=>if s.size≤1000000000 then some (.bool (Lib.contains s.data.toList p.data.toList)) else none
 | _=>none
def sPre:List Value→Option Value
 | [.string s,.string p]=>some (.bool (Lib.hasPrefix s.data.toList p.data.toList))
 | _=>none
def sEnc (e:Str→Str):List Value→Option Value
 | [.string s]=>if s.size≤1000000 then some (.string (S (e s.data.toList))) else none
 | _=>none
theorem same_below {w:World}:Below w.heap.size w w:=Below.refl _ _
theorem fIdx:FlatOk Tryz.prog Γ36 32 sIdx:=⟨by kernel_rfl,fun vs v h=>by
 unfold sIdx at h
 split at h
 ·split at h
  ·cases h
   exact ⟨rfl,fun w _=>(Tryz.strings_IndexByte _ _ w).mono (by rintro e w' ⟨rfl,rfl⟩;exact ⟨rfl,same_below⟩)⟩
  ·cases h
 ·cases h⟩
theorem fLast:FlatOk Tryz.prog Γ36 34 sLast:=⟨by kernel_rfl,fun vs v h=>by
 unfold sLast at h
 split at h
 ·split at h
  ·rename_i hs
   cases h
   exact ⟨rfl,fun w _=>(Tryz.strings_LastIndexByte _ _ (by omega) w).mono (by rintro e w' ⟨rfl,rfl⟩;exact ⟨rfl,same_below⟩)⟩
  ·cases h
 ·cases h⟩
theorem fCon:FlatOk Tryz.prog Γ36 35 sCon:=⟨by kernel_rfl,fun vs v h=>by
 unfold sCon at h
 split at h
 ·split at h
  ·rename_i hs
   cases h
   refine ⟨rfl,fun w hG=>?_⟩
   obtain ⟨⟨m,hm⟩,_⟩:=hG
   exact (Tryz.strings_Contains _ _ m w (by omega) hm).mono (by rintro e w' ⟨rfl,rfl⟩;exact ⟨rfl,same_below⟩)
  ·cases h
 ·cases h⟩
theorem fPre:FlatOk Tryz.prog Γ36 74 sPre:=⟨by kernel_rfl,fun vs v h=>by
 unfold sPre at h
 split at h
 ·cases h
  exact ⟨rfl,fun w _=>(Tryz.strings_HasPrefix _ _ w).mono (by rintro e w' ⟨rfl,rfl⟩;exact ⟨rfl,same_below⟩)⟩
 ·cases h⟩
theorem fB64:FlatOk Tryz.prog Γ36 150 (sEnc enc64):=⟨by kernel_rfl,fun vs v h=>by
 unfold sEnc at h
 split at h
 ·split at h
  ·rename_i hs
   cases h
   exact ⟨rfl,fun w hG=>(encode64 _ w hG.2 hs).mono (by rintro e w' ⟨rfl,hb⟩;exact ⟨rfl,hb⟩)⟩
  ·cases h
 ·cases h⟩
theorem fR64:FlatOk Tryz.prog Γ36 155 (sEnc enc64):=⟨by kernel_rfl,fun vs v h=>by
 unfold sEnc at h
 split at h
 ·split at h
  ·rename_i hs
   cases h
   refine ⟨rfl,fun w hG=>(encode_ref _ w hs).mono ?_⟩
   rintro e w' ⟨rfl,hb⟩
   exact ⟨by rw [enc_law _ _ (Nat.le_refl _)];rfl,hb⟩
  ·cases h
 ·cases h⟩
theorem fQp:FlatOk Tryz.prog Γ36 48 (sEnc (encL 0)):=⟨by kernel_rfl,fun vs v h=>by
 unfold sEnc at h
 split at h
 ·split at h
  ·rename_i hs
   cases h
   exact ⟨rfl,fun w hG=>(enc_qp _ w hs).mono (by rintro e w' ⟨rfl,hb⟩;exact ⟨rfl,hb⟩)⟩
  ·cases h
 ·cases h⟩
theorem fRq:FlatOk Tryz.prog Γ36 51 (sEnc (encL 0)):=⟨by kernel_rfl,fun vs v h=>by
 unfold sEnc at h
 split at h
 ·split at h
  ·rename_i hs
   cases h
   exact ⟨rfl,fun w hG=>(enc_ref _ w hs).mono (by rintro e w' ⟨rfl,hb⟩;exact ⟨rfl,hb⟩)⟩
  ·cases h
 ·cases h⟩
end Go.Proofs.YtmpiobfdchlikaaGreatDoor
end
section
namespace Nun
def blankC (c:UInt8):Bool:=c == 32 || c == 9
def nameC (c:UInt8):Bool:=(65≤c && c≤90) || (97≤c && c≤122) || (48≤c && c≤57) || c == 45
def nameL (l:List UInt8):Bool:=!l.isEmpty && decide (l.length≤32) && l.all nameC
def shownC (c:UInt8):Bool:=c == 9 || (32≤c && c≤126)
def trimEnd (l:List UInt8):List UInt8:=(l.reverse.dropWhile blankC).reverse
def trimB (l:List UInt8):List UInt8:=trimEnd (l.dropWhile blankC)
def crAt:List UInt8→Option Nat
 | []=>none
 | c::r=>if c=13∧r.head? =some 10 then some 0 else (crAt r).map (·+1)
theorem crAt_lt:∀ {l:List UInt8} {k:Nat},crAt l=some k→k+2≤l.length
 | c::r,k,h=>by
   rw [crAt] at h
   split at h
   ·rename_i hc
    cases h
    match r,hc with
    | d::r,_=>simp
   ·rcases hr:crAt r with _ | j
    ·rw [hr] at h;cases h
    ·rw [hr] at h
     have:=crAt_lt hr
     cases h;simp;omega
theorem crAt_some:∀ {l:List UInt8} {k:Nat},crAt l=some k→l[k]? =some 13∧l[k+1]? =some 10
 | c::r,k,h=>by
   rw [crAt] at h
   split at h
   ·rename_i hc
    cases h
    match r,hc with
    | d::r,hc=>simp at hc ⊢;exact hc
   ·rcases hr:crAt r with _ | j
    ·rw [hr] at h;cases h
    ·rw [hr] at h
     have:=crAt_some hr
     cases h;simpa using this
theorem crAt_first:∀ {l:List UInt8} {k:Nat},crAt l=some k→∀ i:Nat,i<k→¬ (l[i]? =some 13∧l[i+1]? =some 10)
 | c::r,k,h,i,hi=>by
   rw [crAt] at h
   split at h
   ·cases h;omega
   ·rename_i hc
    rcases hr:crAt r with _ | j
    ·rw [hr] at h;cases h
    ·rw [hr] at h
     obtain rfl:j+1=k:=by simpa using h
     match i with
     | 0 =>
       intro hh;apply hc
       simp at hh
       exact ⟨hh.1,by rw [List.head?_eq_getElem?];exact hh.2⟩
     | i+1=>simpa using crAt_first hr i (by omega)
theorem crAt_none:∀ {l:List UInt8},crAt l=none→∀ i:Nat,¬ (l[i]? =some 13∧l[i+1]? =some 10)
 | [],_,i=>by simp
 | c::r,h,i=>by
   rw [crAt] at h
   split at h
   ·cases h
   ·rename_i hc
    have hr:crAt r=none:=by simpa using h
    match i with
    | 0 =>
      intro hh;apply hc
      simp at hh
      exact ⟨hh.1,by rw [List.head?_eq_getElem?];exact hh.2⟩
    | i+1=>simpa using crAt_none hr i
def byteAt (b:UInt8):List UInt8→Option Nat
 | []=>none
 | c::r=>if c=b then some 0 else (byteAt b r).map (·+1)
theorem byteAt_lt {b:UInt8}:∀ {l:List UInt8} {k:Nat},byteAt b l=some k→k<l.length
 | c::r,k,h=>by
   rw [byteAt] at h
   split at h
   ·cases h;simp
   ·rcases hr:byteAt b r with _ | j
    ·rw [hr] at h;cases h
    ·rw [hr] at h
     have:=byteAt_lt hr
     cases h;simp;omega
theorem byteAt_some {b:UInt8}:∀ {l:List UInt8} {k:Nat},byteAt b l=some k→l[k]? =some b
 | c::r,k,h=>by
   rw [byteAt] at h
   split at h
   ·rename_i hc;cases h;simp [hc]
   ·rcases hr:byteAt b r with _ | j
    ·rw [hr] at h;cases h
    ·rw [hr] at h
     have:=byteAt_some hr
     cases h;simpa using this
theorem byteAt_first {b:UInt8}:∀ {l:List UInt8} {k:Nat},byteAt b l=some k→∀ i:Nat,i<k→l[i]? ≠some b
 | c::r,k,h,i,hi=>by
   rw [byteAt] at h
   split at h
   ·cases h;omega
   ·rename_i hc
    rcases hr:byteAt b r with _ | j
    ·rw [hr] at h;cases h
    ·rw [hr] at h
     obtain rfl:j+1=k:=by simpa using h
     match i with
     | 0=>simpa using hc
     | i+1=>simpa using byteAt_first hr i (by omega)
theorem byteAt_none {b:UInt8}:∀ {l:List UInt8},byteAt b l=none→∀ i:Nat,l[i]? ≠some b
 | [],_,i=>by simp
 | c::r,h,i=>by
   rw [byteAt] at h
   split at h
   ·cases h
   ·rename_i hc
    have hr:byteAt b r=none:=by simpa using h
    match i with
    | 0=>simpa using hc
    | i+1=>simpa using byteAt_none hr i
abbrev Fld:=List UInt8 × List UInt8
def lineStep (st:List Fld × Bool) (l:List UInt8):Option (List Fld × Bool) :=
 if l.all shownC=false then none
 else if (l.head?.map blankC).getD false then
  (match st.1.getLast? with
   | none=>none
   | some p=>some (st.1.dropLast++[(p.1,p.2++l)],st.2 || decide (998<l.length)))
 else match byteAt 58 l with
  | none=>none
  | some k=>if nameL (l.take k) then some (st.1++[(l.take k,l.drop (k+1))],st.2 || decide (998<l.length)) else none
def itL (l:List UInt8) (at_:Nat):List (List UInt8 × Nat) :=
 match h:crAt l with
 | none=>[]
 | some k=>(l.take k,at_+k+2)::if k=0 then [] else itL (l.drop (k+2)) (at_+k+2)
termination_by l.length
decreasing_by have:=crAt_lt h;simp;omega
theorem itL_none {l:List UInt8} {a:Nat} (h:crAt l=none):itL l a=[]:=by
 rw [itL];split
 ·rfl
 ·rename_i h';rw [h] at h';cases h'
theorem itL_some {l:List UInt8} {a k:Nat} (h:crAt l=some k):itL l a=(l.take k,a+k+2)::if k=0 then [] else itL (l.drop (k+2)) (a+k+2):=by
 rw [itL];split
 ·rename_i h';rw [h] at h';cases h'
 ·rename_i h';rw [h] at h';cases h';rfl
theorem itL_count (n:Nat):∀ (l:List UInt8) (a:Nat),l.length≤n→(itL l a).length≤l.length:=by
 induction n with
 | zero =>
   intro l a h
   rw [List.eq_nil_of_length_eq_zero (l:=l) (by omega),itL_none rfl];simp
 | succ n ih =>
   intro l a h
   rcases hc:crAt l with _ | k
   ·rw [itL_none hc];simp
   ·have:=crAt_lt hc
    rw [itL_some hc,List.length_cons]
    by_cases hk:k=0
    ·rw [if_pos hk];simp;omega
    ·rw [if_neg hk]
     have h2:=ih (l.drop (k+2)) (a+k+2) (by rw [List.length_drop];omega)
     rw [List.length_drop] at h2;omega
theorem itL_short (n:Nat):∀ (l:List UInt8) (a:Nat),l.length≤n→∀ x∈itL l a,x.1.length≤l.length:=by
 induction n with
 | zero =>
   intro l a h x hx
   rw [List.eq_nil_of_length_eq_zero (l:=l) (by omega),itL_none rfl] at hx;cases hx
 | succ n ih =>
   intro l a h x hx
   rcases hc:crAt l with _ | k
   ·rw [itL_none hc] at hx;cases hx
   ·have:=crAt_lt hc
    rw [itL_some hc] at hx
    rcases List.mem_cons.1 hx with rfl | hx
    ·show (l.take k).length≤l.length;rw [List.length_take];omega
    ·by_cases hk:k=0
     ·rw [if_pos hk] at hx;cases hx
     ·rw [if_neg hk] at hx
      have h2:=ih _ _ (by rw [List.length_drop];omega) x hx
      rw [List.length_drop] at h2;omega
def runHead:List (List UInt8 × Nat)→List Fld × Bool→Option (List Fld × Bool × Nat)
 | [],_=>none
 | (ln,a)::r,st=>if ln=[] then some (st.1,st.2,a) else match lineStep st ln with | none=>none | some st'=>runHead r st'
def linesL (ls:List (List UInt8)) (st:List Fld × Bool):Option (List Fld × Bool):=ls.foldlM lineStep st
theorem linesL_snoc (ls:List (List UInt8)) (l:List UInt8) (st:List Fld × Bool):linesL (ls++[l]) st=(linesL ls st).bind fun s=>lineStep s l:=by
 unfold linesL;rw [List.foldlM_append];simp [List.foldlM_cons,List.foldlM_nil]
inductive Split where
 | form
 | long
 | ok (l:List Fld) (body:Nat)
def splitL (l:List UInt8):Split:=match runHead (itL l 0) ([],false) with
 | none=>.form
 | some (_,true,_)=>.long
 | some (f,false,b)=>.ok (f.map fun p=>(p.1,trimB p.2)) b
end Nun
end
section
set_option synthInstance.maxSize 4000
namespace Nun
open Go Go.RowKit
theorem take_all (p:UInt8→Bool) (s:ByteArray) (k:Nat) (h:k<s.size):(s.data.toList.take (k+1)).all p=((s.data.toList.take k).all p && p s[k]):=by
 have h':k<s.data.toList.length:=h
 rw [List.take_succ_eq_append_getElem h',List.all_append];simp;rfl
theorem all_bad (p:UInt8→Bool) (s:ByteArray) (k:Nat) (h:k<s.size) (hb:p s[k]=false):s.data.toList.all p=false:=by
 rw [List.all_eq_false]
 exact ⟨s[k],by have:s.data.toList[k]'h=s[k]:=rfl
                rw [← this];exact List.getElem_mem _,by simp [hb]⟩
theorem all_end (p:UInt8→Bool) (s:ByteArray):(s.data.toList.take s.size).all p=s.data.toList.all p:=by
 rw [List.take_of_length_le (by show s.size≤s.size;omega)]
end Nun
namespace Go.Proofs.YtmpiobfdchlikaaGreatDoor
open Go.RowKit Nun
set_option maxHeartbeats 1000000 in
theorem right_ref (s:ByteArray) (w:World) (hs:s.size≤maxLen):Calls Tryz.prog 112 #[.string s] w (Same (.bool (s.data.toList.all shownC)) w):=by
 unfold maxLen at hs
 obtain ⟨V,hV⟩:∃ V,s.data.toList.all shownC=V:=⟨_,rfl⟩
 rw [hV]
 have HV:=Lib.hid hV;clear hV
 go_enter Tryz.func112,Tryz.ntmps112
 go_wp2
 go_loop [3] (fun i=>∃ k:Nat,k≤s.size∧i=.int .i64 k∧Hid ((s.data.toList.take k).all shownC=true)) (fun i=>s.size - (intOf i).toNat)
 case atStart=>exact ⟨0,Nat.zero_le _,rfl,Lib.hid rfl⟩
 case round =>
  obtain ⟨k,hk,rfl,hall⟩:=hrel
  by_cases hlt:k<s.size
  ·have hst:=take_all shownC s k hlt
   have hbad:=all_bad shownC s k hlt
   rw [HV.out] at hbad
   generalize hc:s[k]=c at *
   have HS:=Lib.hid hst;have HB:=Lib.hid hbad;clear hst hbad
   go_wp2
   all_goals (try (go_ret;exact ⟨r1 (vb (HB.out (by (clear hc HS HB hall);(go_light;revert c;decide +kernel))).symm),rfl⟩))
   all_goals
    have hstep:shownC c=true:=by (clear hc HS HB hall);(go_light;revert c;decide +kernel)
    go_round
    case rel=>exact ⟨k+1,by omega,by go_num,Lib.hid (by rw [HS.out,hall.out,hstep];rfl)⟩
    case measure=>simp [intOf];omega
  ·obtain rfl:k=s.size:=by omega
   have hend:=hall.out
   rw [all_end,HV.out] at hend
   subst hend
   go_wp2
   go_ret
   exact ⟨rfl,rfl⟩
set_option maxHeartbeats 1000000 in
theorem name_ref (s:ByteArray) (w:World) (hs:s.size≤maxLen):Calls Tryz.prog 49 #[.string s] w (Same (.bool (nameL s.data.toList)) w):=by
 unfold maxLen at hs
 obtain ⟨V,hV⟩:∃ V,nameL s.data.toList=V:=⟨_,rfl⟩
 rw [hV]
 by_cases hlen:s.size<1∨32<s.size
 ·have hv0:V=false:=by
   rw [← hV,nameL]
   rcases hlen with h | h
   ·have:s.data.toList=[]:=List.eq_nil_of_length_eq_zero (by show s.size=0;omega)
    rw [this];rfl
   ·rw [show s.data.toList.length=s.size from rfl,show decide (s.size≤32)=false by simp;omega];simp
  subst hv0
  clear hV
  by_cases h1:s.size<1
  ·have h1':(s.size:Int)<1:=by omega
   clear hlen
   go_enter Tryz.func49,Tryz.ntmps49
   go_wp2
   go_ret
   exact ⟨rfl,rfl⟩
  ·have h2':(32:Int)<s.size:=by omega
   clear hlen
   go_enter Tryz.func49,Tryz.ntmps49
   go_wp2
   go_ret
   exact ⟨rfl,rfl⟩
 ·have hVa:V=s.data.toList.all nameC:=by
   rw [← hV,nameL,show s.data.toList.length=s.size from rfl,show decide (s.size≤32)=true by simp;omega]
   have:s.data.toList.isEmpty=false:=by
    rcases h:s.data.toList with _ | ⟨c,r⟩
    ·have:s.size=0:=congrArg List.length h
     omega
    ·rfl
   rw [this];simp
  have HV:=Lib.hid hVa.symm;clear hV hVa
  have h1':¬ (s.size:Int)<1:=by omega
  have h2':¬ (32:Int)<s.size:=by omega
  go_enter Tryz.func49,Tryz.ntmps49
  go_wp2
  go_loop [3,4] (fun i _=>∃ k:Nat,k≤s.size∧i=.int .i64 k∧Hid ((s.data.toList.take k).all nameC=true)) (fun i _=>s.size - (intOf i).toNat)
  case atStart=>exact ⟨0,Nat.zero_le _,rfl,Lib.hid rfl⟩
  case round =>
   obtain ⟨k,hk,rfl,hall⟩:=hrel
   by_cases hlt:k<s.size
   ·have hst:=take_all nameC s k hlt
    have hbad:=all_bad nameC s k hlt
    rw [HV.out] at hbad
    generalize hc:s[k]=c at *
    have HS:=Lib.hid hst;have HB:=Lib.hid hbad;clear hst hbad
    go_wp2
    all_goals (try (go_ret;exact ⟨r1 (vb (HB.out (by (clear hc HS HB hall);(go_light;revert c;decide +kernel))).symm),rfl⟩))
    all_goals
     have hstep:nameC c=true:=by (clear hc HS HB hall);(go_light;revert c;decide +kernel)
     go_round
     case rel=>exact ⟨k+1,by omega,by go_num,Lib.hid (by rw [HS.out,hall.out,hstep];rfl)⟩
     case measure=>simp [intOf];omega
   ·obtain rfl:k=s.size:=by omega
    have hend:=hall.out
    rw [all_end,HV.out] at hend
    subst hend
    go_wp2
    go_ret
    exact ⟨rfl,rfl⟩
end Go.Proofs.YtmpiobfdchlikaaGreatDoor
end
section
namespace Nun
open Go Go.RowKit
def BytesAt (g:Nat) (l:List UInt8) (w:World):Prop:=g<w.heap.size∧∀ (j:Nat) (c:UInt8),l[j]? =some c→w.cell? ⟨g,j,none⟩=some (.int .u8 c.toNat)∧w.frozen? ⟨g,j,none⟩=false
theorem BytesAt.kept {g:Nat} {l:List UInt8} {w w':World} (h:BytesAt g l w) (k:Below w.heap.size w w'):BytesAt g l w' :=
 ⟨Nat.lt_of_lt_of_le h.1 k.size,fun j c hj=>⟨(k.cell (p:=⟨g,j,none⟩) h.1).trans (h.2 j c hj).1,(k.frozen (p:=⟨g,j,none⟩) h.1).trans (h.2 j c hj).2⟩⟩
theorem BytesAt.put {g:Nat} {l:List UInt8} {w:World} (h:BytesAt g l w) (k:Nat) (hk:k<l.length) (d:UInt8):BytesAt g (l.set k d) (w.setCell ⟨g,k,none⟩ (.int .u8 d.toNat)):=by
 have hc:=(h.2 k _ (List.getElem?_eq_getElem hk)).1
 refine ⟨by have:=h.1;simpa using this,fun j c hj=>?_⟩
 by_cases hjk:j=k
 ·subst hjk
  rw [List.getElem?_set_self hk] at hj
  cases hj
  exact ⟨World.cell?_setCell_same _ _ _ hc,by rw [World.frozen?_setCell];exact (h.2 _ _ (List.getElem?_eq_getElem hk)).2⟩
 ·rw [List.getElem?_set_ne (by omega)] at hj
  obtain ⟨h1,h2⟩:=h.2 j c hj
  exact ⟨by rw [World.cell?_setCell_other _ _ _ _ (by simp [Ne.symm hjk])];exact h1,by rw [World.frozen?_setCell];exact h2⟩
end Nun
end
section
set_option synthInstance.maxSize 4000
namespace Go.Proofs.YtmpiobfdchlikaaGreatDoor
open Go.RowKit Nun
end Go.Proofs.YtmpiobfdchlikaaGreatDoor
namespace Nun
theorem trimEnd_snoc (l:List UInt8) (c:UInt8):trimEnd (l++[c])=if blankC c then trimEnd l else l++[c]:=by
 unfold trimEnd
 rw [List.reverse_append,List.reverse_singleton,List.singleton_append,List.dropWhile_cons]
 cases blankC c<;>simp
theorem drop_one (t:ByteArray) (h:0<t.size):t.data.toList=t[0]::(t.extract 1 t.size).data.toList:=by
 have h':0<t.data.toList.length:=h
 have e:=List.drop_eq_getElem_cons h'
 rw [List.drop_zero] at e
 rw [Go.Lib.extract_data,List.take_of_length_le (by rw [List.length_drop];show t.size - 1≤t.size - 1;omega)]
 exact e
theorem drop_last (t:ByteArray) (h:0<t.size):t.data.toList=(t.extract 0 (t.size - 1)).data.toList++[t[t.size - 1]]:=by
 have h':t.size - 1<t.data.toList.length:=by show t.size - 1<t.size;omega
 have e:=List.take_succ_eq_append_getElem h'
 rw [show t.size - 1+1=t.size by omega,List.take_of_length_le (by show t.size≤t.size;omega)] at e
 rw [Go.Lib.extract_data,List.drop_zero,Nat.sub_zero]
 exact e
def begL (s x:List UInt8) (k:Nat):Bool:=decide (k≤s.length) && ((s.drop k).take x.length == x)
end Nun
namespace Go.Proofs.YtmpiobfdchlikaaGreatDoor
open Go.RowKit Nun
set_option maxHeartbeats 1000000 in
theorem trim_ref (s:ByteArray) (w:World) (hs:s.size≤1000000000):Calls Tryz.prog 114 #[.string s] w (Same (.string ⟨(trimB s.data.toList).toArray⟩) w):=by
 obtain ⟨D,hD⟩:∃ D,s.data.toList.dropWhile blankC=D:=⟨_,rfl⟩
 obtain ⟨V,hV⟩:∃ V,trimEnd D=V:=⟨_,rfl⟩
 have hVV:trimB s.data.toList=V:=by rw [trimB,hD,hV]
 rw [hVV]
 have HD:=Lib.hid hD;have HV:=Lib.hid hV;clear hD hV hVV
 go_enter Tryz.func114,Tryz.ntmps114
 go_wp2
 go_loop [0] (fun v=>∃ t:ByteArray,v=.string t∧t.size≤1000000000∧Hid (t.data.toList.dropWhile blankC=D)) (fun v=>match v with | .string t=>t.size | _=>0)
 case atStart=>exact ⟨s,rfl,hs,HD⟩
 case round =>
  obtain ⟨t,rfl,ht,hd⟩:=hrel
  have hcase:(∃ h:0<t.size,blankC t[0]=true)∨((t.size=0∨∃ h:0<t.size,blankC t[0]=false)∧t.data.toList=D):=by
   by_cases hpos:0<t.size
   ·have hcons:=drop_one t hpos
    by_cases hb:blankC t[0]=true
    ·exact .inl ⟨hpos,hb⟩
    ·refine .inr ⟨.inr ⟨hpos,by simpa using hb⟩,?_⟩
     rw [← hd.out];conv=>rhs;rw [hcons,List.dropWhile_cons,if_neg hb]
     exact hcons
   ·refine .inr ⟨.inl (by omega),?_⟩
    rw [← hd.out,List.eq_nil_of_length_eq_zero (l:=t.data.toList) (by show t.size=0;omega)];rfl
  rcases hcase with ⟨hpos,hb⟩ | ⟨hor,hT⟩
  ·have hcons:=drop_one t hpos
   have hstep:(t.extract 1 t.size).data.toList.dropWhile blankC=D:=by rw [← hd.out,hcons,List.dropWhile_cons,hb];rfl
   have HS:=Lib.hid hstep
   have hb2:((t[0].toNat:Int) == 32)=true∨((t[0].toNat:Int) == 32)=false∧((t[0].toNat:Int) == 9)=true:=by
    clear hcons hstep HS;revert hb;generalize t[0]=c;clear hd;revert c;decide +kernel
   have hxs:(t.extract 1 t.size).size=t.size - 1:=by rw [ByteArray.size_extract];omega
   clear hcons hb hstep
   rcases hb2 with q1 | ⟨q1,q2⟩
   all_goals
    go_wp2
    go_round
    case rel=>exact ⟨_,rfl,by omega,HS⟩
    case measure=>simp;omega
  ·have HT:=Lib.hid hT
   clear hT hd
   rcases hor with h0 | ⟨hpos,hb⟩
   case inr =>
    have hb2:((t[0].toNat:Int) == 32)=false∧((t[0].toNat:Int) == 9)=false:=by
     clear HT;revert hb;generalize t[0]=c;revert c;decide +kernel
    obtain ⟨q1,q2⟩:=hb2
    clear hb
    go_wp2
    go_loop [0] (fun v=>∃ u:ByteArray,v=.string u∧u.size≤1000000000∧Hid (trimEnd u.data.toList=V)) (fun v=>match v with | .string t=>t.size | _=>0)
    case atStart=>exact ⟨t,rfl,ht,Lib.hid (by rw [HT.out];exact HV.out)⟩
    case round =>
     obtain ⟨u,rfl,hu,hd⟩:=hrel
     by_cases hup:0<u.size
     ·have hlast:=drop_last u hup
      by_cases hbu:blankC (u[u.size - 1]'(by omega))=true
      ·have hstep:trimEnd (u.extract 0 (u.size - 1)).data.toList=V:=by rw [← hd.out,hlast,trimEnd_snoc,if_pos hbu]
       have HS:=Lib.hid hstep
       have hb2:(((u[u.size - 1]'(by omega)).toNat:Int) == 32)=true∨(((u[u.size - 1]'(by omega)).toNat:Int) == 32)=false∧(((u[u.size - 1]'(by omega)).toNat:Int) == 9)=true:=by
        clear hlast hstep HS;revert hbu;generalize u[u.size - 1]'(by omega)=c;clear hd HT;revert c;decide +kernel
       have hxs:(u.extract 0 (u.size - 1)).size=u.size - 1:=by rw [ByteArray.size_extract];omega
       clear hlast hbu hstep
       rcases hb2 with q3 | ⟨q3,q4⟩
       all_goals
        go_wp2
        go_round
        case rel=>exact ⟨_,rfl,by omega,HS⟩
        case measure=>simp;omega
      ·have hT:u.data.toList=V:=by
        rw [← hd.out];conv=>rhs;rw [hlast,trimEnd_snoc,if_neg hbu]
        exact hlast
       have HU:=Lib.hid hT
       have hb2:(((u[u.size - 1]'(by omega)).toNat:Int) == 32)=false∧(((u[u.size - 1]'(by omega)).toNat:Int) == 9)=false:=by
        clear hlast hT HU;revert hbu;generalize u[u.size - 1]'(by omega)=c;clear hd HT;revert c;decide +kernel
       obtain ⟨q3,q4⟩:=hb2
       clear hlast hbu hT
       go_wp2
       go_ret
       exact ⟨r1 (vS HU.out),rfl⟩
     ·have hT:u.data.toList=V:=by
       rw [← hd.out,List.eq_nil_of_length_eq_zero (l:=u.data.toList) (by show u.size=0;omega)];rfl
      have HU:=Lib.hid hT
      have h1':¬ (0:Int)<u.size:=by omega
      clear hT
      go_wp2
      go_ret
      exact ⟨r1 (vS HU.out),rfl⟩
   case inl =>
    have h0':¬ (0:Int)<t.size:=by omega
    clear h0
    go_wp2
    go_loop [0] (fun v=>∃ u:ByteArray,v=.string u∧u.size≤1000000000∧Hid (trimEnd u.data.toList=V)) (fun v=>match v with | .string t=>t.size | _=>0)
    case atStart=>exact ⟨t,rfl,ht,Lib.hid (by rw [HT.out];exact HV.out)⟩
    case round =>
     obtain ⟨u,rfl,hu,hd⟩:=hrel
     by_cases hup:0<u.size
     ·have hlast:=drop_last u hup
      by_cases hbu:blankC (u[u.size - 1]'(by omega))=true
      ·have hstep:trimEnd (u.extract 0 (u.size - 1)).data.toList=V:=by rw [← hd.out,hlast,trimEnd_snoc,if_pos hbu]
       have HS:=Lib.hid hstep
       have hb2:(((u[u.size - 1]'(by omega)).toNat:Int) == 32)=true∨(((u[u.size - 1]'(by omega)).toNat:Int) == 32)=false∧(((u[u.size - 1]'(by omega)).toNat:Int) == 9)=true:=by
        clear hlast hstep HS;revert hbu;generalize u[u.size - 1]'(by omega)=c;clear hd HT;revert c;decide +kernel
       have hxs:(u.extract 0 (u.size - 1)).size=u.size - 1:=by rw [ByteArray.size_extract];omega
       clear hlast hbu hstep
       rcases hb2 with q3 | ⟨q3,q4⟩
       all_goals
        go_wp2
        go_round
        case rel=>exact ⟨_,rfl,by omega,HS⟩
        case measure=>simp;omega
      ·have hT:u.data.toList=V:=by
        rw [← hd.out];conv=>rhs;rw [hlast,trimEnd_snoc,if_neg hbu]
        exact hlast
       have HU:=Lib.hid hT
       have hb2:(((u[u.size - 1]'(by omega)).toNat:Int) == 32)=false∧(((u[u.size - 1]'(by omega)).toNat:Int) == 9)=false:=by
        clear hlast hT HU;revert hbu;generalize u[u.size - 1]'(by omega)=c;clear hd HT;revert c;decide +kernel
       obtain ⟨q3,q4⟩:=hb2
       clear hlast hbu hT
       go_wp2
       go_ret
       exact ⟨r1 (vS HU.out),rfl⟩
     ·have hT:u.data.toList=V:=by
       rw [← hd.out,List.eq_nil_of_length_eq_zero (l:=u.data.toList) (by show u.size=0;omega)];rfl
      have HU:=Lib.hid hT
      have h1':¬ (0:Int)<u.size:=by omega
      clear hT
      go_wp2
      go_ret
      exact ⟨r1 (vS HU.out),rfl⟩
set_option maxHeartbeats 1000000 in
theorem begins_ref (s x:ByteArray) (k:Nat) (w:World) (hs:s.size≤1000000000) (hx:x.size≤1000000000) (hk:k≤1000000000):Calls Tryz.prog 60 #[.string s,.string x,.int .i64 k] w (Same (.bool (begL s.data.toList x.data.toList k)) w):=by
 obtain ⟨V,hV⟩:∃ V,begL s.data.toList x.data.toList k=V:=⟨_,rfl⟩
 rw [hV]
 by_cases h1:k≤s.size
 ·by_cases h2:x.size≤s.size - k
  ·have h2':(x.size:Int)≤s.size - k:=by omega
   have hv:V=((s.extract k (k+x.size)).toList == x.toList):=by
    rw [← hV,begL,show decide (k≤s.data.toList.length)=true by simp;exact h1,Bool.true_and,ByteArray.toList_eq,ByteArray.toList_eq,Lib.extract_data,Nat.add_sub_cancel_left];rfl
   have HV:=Lib.hid hv;clear hV hv
   go_enter Tryz.func60,Tryz.ntmps60
   go_wp2
   go_ret
   exact ⟨r1 (vb HV.out.symm),rfl⟩
  ·have h2':¬ (x.size:Int)≤s.size - k:=by omega
   have hv:V=false:=by
    rw [← hV,begL,Bool.and_eq_false_iff];right
    rw [beq_eq_false_iff_ne];intro h
    have:=congrArg List.length h
    rw [List.length_take,List.length_drop,show s.data.toList.length=s.size from rfl,show x.data.toList.length=x.size from rfl] at this
    omega
   subst hv
   clear hV
   go_enter Tryz.func60,Tryz.ntmps60
   go_wp2
   go_ret
   exact ⟨rfl,rfl⟩
 ·have h1':¬ (k:Int)≤s.size:=by omega
  have hv:V=false:=by
   rw [← hV,begL,show decide (k≤s.data.toList.length)=false by simp;exact Nat.lt_of_not_le h1];rfl
  subst hv
  clear hV
  go_enter Tryz.func60,Tryz.ntmps60
  go_wp2
  go_ret
  exact ⟨rfl,rfl⟩
end Go.Proofs.YtmpiobfdchlikaaGreatDoor
end
section
namespace Nun
open Go Go.RowKit
abbrev LineAt:={ p:ByteArray × Nat // p.1.size≤10000∧p.2≤20000 }
def LineAt.pair (p:LineAt):List UInt8 × Nat:=(p.1.1.data.toList,p.1.2)
def MaxIs (W:World):Prop:=∃ m,W.cell? ⟨0,0,none⟩=some (.int .i64 m)
theorem MaxIs.kept {W W':World} (h:MaxIs W) (k:KeepsAt 0 W W'):MaxIs W':=by
 obtain ⟨m,hm⟩:=h
 exact ⟨m,by unfold World.cell? at hm ⊢;rw [k];exact hm⟩
theorem MaxIs.lt {W:World} (h:MaxIs W):0<W.heap.size:=by
 obtain ⟨m,hm⟩:=h
 exact World.block_lt_of_cell? W _ hm
end Nun
namespace Go.Proofs.YtmpiobfdchlikaaGreatDoor
open Go Go.RowKit Nun
attribute [local go_sem] Oper.semAt_some
end Go.Proofs.YtmpiobfdchlikaaGreatDoor
end
section
namespace Nun
open Go Go.RowKit
def fldCells (l:List Fld):List Value:=l.flatMap fun p=>[.string ⟨p.1.toArray⟩,.string ⟨p.2.toArray⟩]
theorem fldCells_len (l:List Fld):(fldCells l).length=l.length * 2:=by
 induction l with
 | nil=>rfl
 | cons p l ih=>show (([.string ⟨p.1.toArray⟩,.string ⟨p.2.toArray⟩]:List Value)++fldCells l).length=_;rw [List.length_append,ih];simp;omega
theorem fldCells_snoc (l:List Fld) (p:Fld):fldCells (l++[p])=fldCells l++[.string ⟨p.1.toArray⟩,.string ⟨p.2.toArray⟩]:=by simp [fldCells]
def lnsOf (pre:List LineAt):List (List UInt8):=pre.map fun x=>x.1.1.data.toList
def stOf (pre:List LineAt):List Fld × Bool:=(linesL (lnsOf pre) ([],false)).getD ([],false)
def HGood (pre:List LineAt):Prop:=linesL (lnsOf pre) ([],false)=some (stOf pre)∧∀ x∈pre,x.1.1.data.toList≠[]
theorem step_hid {st:List Fld × Bool} {l:List UInt8} (h:l.all shownC=false):lineStep st l=none:=by unfold lineStep;rw [if_pos h]
theorem step_blank_nil {st:List Fld × Bool} {l:List UInt8} (hb:(l.head?.map blankC).getD false=true) (h:st.1=[]):lineStep st l=none:=by
 by_cases hs:l.all shownC=false
 ·exact step_hid hs
 ·unfold lineStep;rw [if_neg hs,if_pos hb,h];rfl
theorem step_blank {st:List Fld × Bool} {l:List UInt8} {F:List Fld} {q:Fld} (hs:l.all shownC=true) (hb:(l.head?.map blankC).getD false=true) (h:st.1=F++[q]) :
 lineStep st l=some (F++[(q.1,q.2++l)],st.2 || decide (998<l.length)):=by
 unfold lineStep
 rw [if_neg (by simp [hs]),if_pos hb,h,List.getLast?_concat];simp
theorem step_nocolon {st:List Fld × Bool} {l:List UInt8} (hb:(l.head?.map blankC).getD false=false) (h:byteAt 58 l=none):lineStep st l=none:=by
 by_cases hs:l.all shownC=false
 ·exact step_hid hs
 ·unfold lineStep;rw [if_neg hs,if_neg (by simp [hb]),h]
theorem step_noname {st:List Fld × Bool} {l:List UInt8} {k:Nat} (hb:(l.head?.map blankC).getD false=false) (h:byteAt 58 l=some k) (hn:nameL (l.take k)=false):lineStep st l=none:=by
 by_cases hs:l.all shownC=false
 ·exact step_hid hs
 ·unfold lineStep;rw [if_neg hs,if_neg (by simp [hb]),h];simp [hn]
theorem step_field {st:List Fld × Bool} {l:List UInt8} {k:Nat} (hs:l.all shownC=true) (hb:(l.head?.map blankC).getD false=false) (h:byteAt 58 l=some k) (hn:nameL (l.take k)=true) :
 lineStep st l=some (st.1++[(l.take k,l.drop (k+1))],st.2 || decide (998<l.length)):=by
 unfold lineStep
 rw [if_neg (by simp [hs]),if_neg (by simp [hb]),h];simp [hn]
theorem step_len {st st':List Fld × Bool} {l:List UInt8} (h:lineStep st l=some st'):st'.1.length≤st.1.length+1:=by
 unfold lineStep at h
 split at h
 ·cases h
 ·split at h
  ·split at h
   ·cases h
   ·cases h;simp
  ·split at h
   ·cases h
   ·split at h
    ·cases h;simp
    ·cases h
theorem lines_len:∀ (ls:List (List UInt8)) (st st':List Fld × Bool),linesL ls st=some st'→st'.1.length≤st.1.length+ls.length
 | [],st,st',h=>by simp [linesL] at h;rw [h];simp
 | l::ls,st,st',h=>by
   rw [linesL,List.foldlM_cons] at h
   obtain ⟨s1,h1,h2⟩:=Option.bind_eq_some_iff.1 h
   have:=step_len h1
   have:=lines_len ls s1 st' h2
   rw [List.length_cons];omega
theorem step_vals {st st':List Fld × Bool} {l:List UInt8} {C:Nat} (h:lineStep st l=some st') (hC:∀ f∈st.1,f.2.length≤C):∀ f∈st'.1,f.2.length≤C+l.length:=by
 unfold lineStep at h
 split at h
 ·cases h
 ·split at h
  ·split at h
   ·cases h
   ·rename_i q hq
    cases h
    intro f hf
    rcases List.mem_append.1 hf with hf | hf
    ·have:=hC f ((List.dropLast_sublist _).subset hf);omega
    ·rw [List.mem_singleton.1 hf,List.length_append]
     have:=hC q (List.mem_of_getLast? hq);omega
  ·split at h
   ·cases h
   ·split at h
    ·cases h
     intro f hf
     rcases List.mem_append.1 hf with hf | hf
     ·have:=hC f hf;omega
     ·rw [List.mem_singleton.1 hf,List.length_drop];omega
    ·cases h
theorem lines_vals:∀ (ls:List (List UInt8)) (st st':List Fld × Bool) (C M:Nat),linesL ls st=some st'→(∀ f∈st.1,f.2.length≤C)→(∀ l∈ls,l.length≤M)→∀ f∈st'.1,f.2.length≤C+M * ls.length
 | [],st,st',C,M,h,hC,_=>by simp [linesL] at h;rw [← h];simpa using hC
 | l::ls,st,st',C,M,h,hC,hM=>by
   rw [linesL,List.foldlM_cons] at h
   obtain ⟨s1,h1,h2⟩:=Option.bind_eq_some_iff.1 h
   have a:=step_vals h1 hC
   have hl:=hM l (by simp)
   have:=lines_vals ls s1 st' (C+M) M h2 (fun f hf=>by have:=a f hf;omega) (fun x hx=>hM x (by simp [hx]))
   intro f hf
   have:=this f hf
   rw [List.length_cons,Nat.mul_succ];omega
theorem head_blank (p:ByteArray) (h:0<p.size):(p.data.toList.head?.map blankC).getD false=blankC p[0]:=by
 rw [List.head?_eq_getElem?,List.getElem?_eq_getElem (show 0<p.data.toList.length from h)];rfl
theorem own_below {w w':World} {B e size n:Nat} {v:Value} {xs:List Value} (h:w.ownsRow B e size v n xs) (k:Below w.heap.size w w'):w'.ownsRow B e size v n xs :=
 World.ownsRow.kept (row:=none) h ⟨k.os,k.tape,k.output,k.size,fun i hi _=>k.block i hi⟩ (by cases v.ownBlock<;>simp)
theorem row_form {w:World} {B:Nat} {e size:Nat} {v:Value} {n:Nat} {xs:List Value} (h:w.ownsRow B e size v n xs):(v=.slice none 0 0∧n=0)∨∃ g cap,v=.slice (some ⟨g,0,none⟩) n cap∧B≤g∧g<w.heap.size∧n≤cap:=by
 rcases h.2 with h0 | ⟨g,cap,cur,rfl,hb,hh,hc,_⟩
 ·exact .inl h0
 ·exact .inr ⟨g,cap,rfl,hb,(Array.getElem?_eq_some_iff.1 hh).1,hc⟩
end Nun
namespace Go.Proofs.YtmpiobfdchlikaaGreatDoor
open Go Go.RowKit Nun
attribute [local go_sem] Oper.semAt_some
def Out (n0:Nat) (w:World) (c:Code) (pre:List LineAt) (W:World):Prop :=
 (((Boxed W n0 45 (.slice none 0 0)∧Boxed W (n0+1) 3 (.int .i64 0)∧Boxed W (n0+1+1) 26 (.int .i64 7))∧(c=.ret∧∃ pre0 x,pre=pre0++[x]∧HGood pre0∧x.1.1.data.toList≠[]∧lineStep (stOf pre0) x.1.1.data.toList=none))∧Below n0 w W) ∨
 (((∃ v,Boxed W n0 45 v∧W.ownsRow n0 80 2 v (stOf pre.dropLast).1.length (fldCells (stOf pre.dropLast).1)∧True)∧Boxed W (n0+1) 3 (.int .i64 ((pre.getLast?.map fun x=>x.1.2).getD 0:Nat))∧Boxed W (n0+1+1) 26 (.int .i64 (if (stOf pre.dropLast).2 then 6 else 0)))∧(c=.exit 0∧∃ pre0 x,pre=pre0++[x]∧HGood pre0∧x.1.1.data.toList=[]))∧Below n0 w W
theorem OwnFrom.or {β:Type} {B:Nat} {I J:β→World→Prop} (h:OwnFrom B I) (k:OwnFrom B J):OwnFrom B (fun s W=>I s W∨J s W):=fun s W W' row hs hg hr=>hs.elim (fun a=>.inl (h s W W' row a hg hr)) (fun a=>.inr (k s W W' row a hg hr))
end Go.Proofs.YtmpiobfdchlikaaGreatDoor
end
section
set_option synthInstance.maxSize 4000
namespace Nun
open Go Go.RowKit
def strCells (l:List (List UInt8)):List Value:=l.map fun x=>.string ⟨x.toArray⟩
theorem strCells_snoc (l:List (List UInt8)) (x:List UInt8):strCells (l++[x])=strCells l++[.string ⟨x.toArray⟩]:=by simp [strCells]
theorem beg_crlf (s:List UInt8) (i:Nat):begL s [13,10] i=true ↔ s[i]? =some 13∧s[i+1]? =some 10:=by
 unfold begL
 rw [Bool.and_eq_true,decide_eq_true_eq,beq_iff_eq,← List.head?_drop,show s[i+1]? =(s.drop i)[1]? by rw [List.getElem?_drop]]
 have hl:(s.drop i).length=s.length - i:=List.length_drop
 match h:s.drop i with
 | []=>simp
 | [a]=>simp
 | a::b::r=>rw [h] at hl;simp at hl;simp;intro _ _;omega
def endV (k:Nat):Option Nat→Int | some j=>((k+j:Nat):Int) | none=>-1
def linesR:List (List UInt8 × Nat)→Option (List (List UInt8) × Nat)
 | []=>none
 | (ln,a)::r=>if ln=[] then some ([],a) else (linesR r).map fun p=>(ln::p.1,p.2)
theorem runHead_none:∀ (xs:List (List UInt8 × Nat)) (st:List Fld × Bool),linesR xs=none→runHead xs st=none
 | [],st,_=>rfl
 | (ln,a)::r,st,h=>by
   rw [linesR] at h
   by_cases hl:ln=[]
   ·rw [if_pos hl] at h;cases h
   ·rw [if_neg hl] at h
    have hr:linesR r=none:=by simpa using h
    rw [runHead,if_neg hl]
    rcases lineStep st ln with _ | st'
    ·rfl
    ·exact runHead_none r st' hr
theorem runHead_some:∀ (xs:List (List UInt8 × Nat)) (st:List Fld × Bool) (ls:List (List UInt8)) (a:Nat),linesR xs=some (ls,a)→runHead xs st=(linesL ls st).map fun s=>(s.1,s.2,a)
 | [],st,ls,a,h=>by cases h
 | (ln,b)::r,st,ls,a,h=>by
   rw [linesR] at h
   by_cases hl:ln=[]
   ·rw [if_pos hl] at h;cases h;rw [runHead,if_pos hl];rfl
   ·rw [if_neg hl] at h
    rcases hr:linesR r with _ | ⟨ls',a'⟩
    ·rw [hr] at h;cases h
    ·rw [hr] at h
     cases h
     rw [runHead,if_neg hl,linesL,List.foldlM_cons]
     rcases hs:lineStep st ln with _ | st'
     ·rfl
     ·exact runHead_some r st' ls' a' hr
theorem linesR_ne:∀ (xs:List (List UInt8 × Nat)) (ls:List (List UInt8)) (a:Nat),linesR xs=some (ls,a)→∀ x∈ls,x≠[]
 | [],ls,a,h=>by cases h
 | (ln,b)::r,ls,a,h=>by
   rw [linesR] at h
   by_cases hl:ln=[]
   ·rw [if_pos hl] at h;cases h;simp
   ·rw [if_neg hl] at h
    rcases hr:linesR r with _ | ⟨ls',a'⟩
    ·rw [hr] at h;cases h
    ·rw [hr] at h
     cases h
     intro x hx
     rcases List.mem_cons.1 hx with rfl | hx
     ·exact hl
     ·exact linesR_ne r ls' _ hr x hx
theorem linesR_len:∀ (xs:List (List UInt8 × Nat)) (ls:List (List UInt8)) (a:Nat),linesR xs=some (ls,a)→ls.length≤xs.length∧∀ x∈ls,∃ b,(x,b)∈xs
 | [],ls,a,h=>by cases h
 | (ln,b)::r,ls,a,h=>by
   rw [linesR] at h
   by_cases hl:ln=[]
   ·rw [if_pos hl] at h;cases h;simp
   ·rw [if_neg hl] at h
    rcases hr:linesR r with _ | ⟨ls',a'⟩
    ·rw [hr] at h;cases h
    ·rw [hr] at h
     cases h
     have:=linesR_len r ls' _ hr
     refine ⟨by simp;exact this.1,fun x hx=>?_⟩
     rcases List.mem_cons.1 hx with rfl | hx
     ·exact ⟨b,by simp⟩
     ·obtain ⟨c,hc⟩:=this.2 x hx;exact ⟨c,by simp [hc]⟩
end Nun
namespace Go.Proofs.YtmpiobfdchlikaaGreatDoor
open Go Go.RowKit Nun
theorem begins_of (s x:ByteArray) (k:Nat) (b:Bool) (h:begL s.data.toList x.data.toList k=b) (w:World) (hs:s.size≤1000000000) (hx:x.size≤1000000000) (hk:k≤1000000000):Calls Tryz.prog 60 #[.string s,.string x,.int .i64 k] w (Same (.bool b) w):=h ▸ begins_ref s x k w hs hx hk
set_option maxHeartbeats 1000000 in
theorem end_ref (s:ByteArray) (k:Nat) (w:World) (hs:s.size≤1000000) (hk:k≤s.size) (o:Option Nat) (ho:crAt (s.data.toList.drop k)=o):Calls Tryz.prog 168 #[.string s,.int .i64 k] w (Same (.int .i64 (endV k o)) w):=by
 have hat:∀ d,k+d≤s.size→begL s.data.toList [13,10] (k+d)=decide (o=some d)∨∃ e,o=some e∧e<d:=by
  intro d hd
  by_cases hod:o=some d
  ·left
   rw [hod] at ho
   have:=crAt_some ho
   rw [List.getElem?_drop,List.getElem?_drop] at this
   rw [(beg_crlf _ _).2 this];simp [hod]
  ·by_cases hlt:∃ e,o=some e∧e<d
   ·exact .inr hlt
   ·left
    rw [show decide (o=some d)=false by simpa using hod]
    have hn:¬ (begL s.data.toList [13,10] (k+d)=true):=by
     rw [beg_crlf]
     intro h
     rw [← List.getElem?_drop,show k+d+1=k+(d+1) by omega,← List.getElem?_drop] at h
     rcases o with _ | e
     ·exact crAt_none ho d h
     ·have hne:e≠d:=fun e'=>hod (by rw [e'])
      by_cases hed:e<d
      ·exact hlt ⟨e,rfl,hed⟩
      ·exact crAt_first ho d (by omega) h
    simpa using hn
 have hbd:∀ e,o=some e→k+e+2≤s.size:=by
  intro e h
  rw [h] at ho
  have:=crAt_lt ho
  rw [List.length_drop,show s.data.toList.length=s.size from rfl] at this;omega
 have HA:=Lib.hid hat;clear hat ho
 obtain ⟨V,hV⟩:∃ V,endV k o=V:=⟨_,rfl⟩
 rw [hV]
 have HV:=Lib.hid hV;have HBD:=Lib.hid hbd;clear hV hbd
 go_enter Tryz.func168,Tryz.ntmps168
 go_wp2
 go_loop [5] (fun i=>∃ d:Nat,i=.int .i64 ((k+d:Nat):Int)∧k+d≤s.size∧Hid (¬ ∃ e,o=some e∧e<d)) (fun i=>s.size - (intOf i).toNat)
 case atStart=>exact ⟨0,rfl,by omega,Lib.hid (by rintro ⟨e,_,h⟩;omega)⟩
 case round =>
  obtain ⟨d,rfl,hd,hno⟩:=hrel
  have hcast:((k+d:Nat):Int)=(k:Int)+d:=by omega
  by_cases hlt:k+d<s.size
  ·have hb:=(HA.out d (by omega)).resolve_right hno.out
   obtain ⟨i,hi⟩:∃ i,k+d=i:=⟨_,rfl⟩
   rw [hi] at hb hd hlt
   by_cases hod:o=some d
   ·have HB:=Lib.hid (show begL s.data.toList (ByteArray.mk #[13,10]).data.toList i=true by rw [hb];simp [hod])
    have HR:=Lib.hid (show (i:Int)=V by rw [← HV.out,hod,← hi];rfl)
    have HI:=Lib.hid hi
    rw [hi]
    clear hb hcast hod hi
    go_wp2_with (go_at_call 60;refine (begins_of s ⟨#[13,10]⟩ i true HB.out _ (by omega) (by decide) (by omega)).mono ?_;rintro e w1 ⟨rfl,rfl⟩)
    go_ret
    exact ⟨r1 (vi HR.out),rfl⟩
   ·have HB:=Lib.hid (show begL s.data.toList (ByteArray.mk #[13,10]).data.toList i=false by rw [hb];simp [hod])
    have HN:=Lib.hid (show ¬ ∃ e,o=some e∧e<d+1 by
     rintro ⟨e,he,hed⟩
     exact hno.out ⟨e,he,by
      have:e≠d:=fun h=>hod (by rw [he,h])
      omega⟩)
    have HI:=Lib.hid hi
    rw [hi]
    clear hb hcast hod hi
    go_wp2_with (go_at_call 60;refine (begins_of s ⟨#[13,10]⟩ i false HB.out _ (by omega) (by decide) (by omega)).mono ?_;rintro e w1 ⟨rfl,rfl⟩)
    go_round
    case rel=>exact ⟨d+1,by rw [show k+(d+1)=i+1 by have:=HI.out;omega];go_num,by have:=HI.out;omega,HN⟩
    case measure=>simp [intOf];omega
  ·have hnone:o=none:=by
    rcases o with _ | e
    ·rfl
    ·have h1:=HBD.out e rfl
     have h2:¬ e<d:=fun h=>hno.out ⟨e,rfl,h⟩
     omega
   have HR:=Lib.hid (show (-1:Int)=V by rw [← HV.out,hnone];rfl)
   have hlt2:¬ ((k:Int)+d<s.size):=by omega
   clear hnone
   go_wp2
   go_ret
   exact ⟨r1 (vi HR.out),rfl⟩
theorem blank_ref13 (c:UInt8) (w:World):Calls Tryz.prog 113 #[.int .u8 c.toNat] w (Same (.bool (blankC c)) w):=by
 go_enter Tryz.func113,Tryz.ntmps113
 go_wp2
 all_goals (go_ret;refine ⟨r1 (vb ?_),rfl⟩)
 all_goals (go_light;revert c;decide +kernel)
def linesV:Option (List (List UInt8) × Nat)→World→Ending→World→Prop
 | none,w,e,w'=>e=.returned (.tuple #[.slice none 0 0,.int .i64 0,.bool false])∧Below w.heap.size w w'
 | some (ls,a),w,e,w'=>∃ v,e=.returned (.tuple #[v,.int .i64 a,.bool true])∧w'.ownsRow w.heap.size 9 1 v ls.length (strCells ls)∧Below w.heap.size w w'
theorem infoString:(Tryz.prog.info? 9).map (fun i=>(i.zero,i.size,i.bytes))=some (some (.string ⟨#[]⟩),1,16):=by kernel_rfl
theorem endr_of (s:ByteArray) (k:Nat) (V:Int) (o:Option Nat) (ho:crAt (s.data.toList.drop k)=o) (hV:endV k o=V) (w:World) (hs:s.size≤1000000) (hk:k≤s.size):Calls Tryz.prog 168 #[.string s,.int .i64 k] w (Same (.int .i64 V) w):=hV ▸ end_ref s k w hs hk o ho
set_option maxHeartbeats 2000000 in
theorem lines_ref (s:ByteArray) (w:World) (hs:s.size≤1000000) (R:Option (List (List UInt8) × Nat)) (hR:linesR (itL s.data.toList 0)=R):Calls Tryz.prog 111 #[.string s] w (linesV R w):=by
 have HRR:=Lib.hid hR;clear hR
 go_enter Tryz.func111,Tryz.ntmps111
 go_wp2
 go_loopw [5,6,7] (fun v i _ wr=>∃ (k:Nat) (acc:List (List UInt8)),i=.int .i64 k∧k≤s.size∧acc.length≤k∧wr.ownsRow w.heap.size 9 1 v acc.length (strCells acc)∧Below w.heap.size w wr∧Hid (R=(linesR (itL (s.data.toList.drop k) k)).map fun p=>(acc++p.1,p.2)))
  (fun _ i _ _=>s.size+1 - (intOf i).toNat)
 case atStart=>exact ⟨0,[],rfl,Nat.zero_le _,Nat.le_refl _,World.ownsRow_made (size:=1) w _ 0 (Nat.le_refl _) (by decide) (by decide),(Below.refl _ _).alloc (Nat.le_refl _) _,Lib.hid (by rw [List.drop_zero,HRR.out];simp)⟩
 case round =>
  obtain ⟨k,acc,rfl,hk,hal,hown,hbel,hacc⟩:=hrel
  rcases ho:crAt (s.data.toList.drop k) with _ | j
  ·have HV:=Lib.hid (show endV k none=-1 from rfl)
   have HO:=Lib.hid ho
   have hfin:R=none:=by rw [hacc.out,itL_none ho];rfl
   have HF:=Lib.hid hfin
   clear ho hfin
   go_wp2_with (go_at_call 168;refine (endr_of s k (-1) none HO.out HV.out _ (by omega) hk).mono ?_;rintro e w1 ⟨rfl,rfl⟩)
   go_ret3
   rw [HF.out]
   exact ⟨rfl,hbel⟩
  ·have hlt:=crAt_lt ho
   rw [List.length_drop,show s.data.toList.length=s.size from rfl] at hlt
   have hit:=itL_some (a:=k) ho
   rw [List.drop_drop] at hit
   have HO:=Lib.hid ho;have HIT:=Lib.hid hit;clear ho hit
   obtain ⟨tO,hto⟩:∃ tO,k+j=tO:=⟨_,rfl⟩
   have HV:=Lib.hid (show endV k (some j)=(tO:Int) by rw [← hto];rfl)
   by_cases hj:j=0
   ·have hfin:R=some (acc,k+2):=by
     rw [hacc.out,HIT.out,hj];simp [linesR]
    have HF:=Lib.hid hfin
    obtain rfl:k=tO:=by omega
    clear hj hto hfin
    go_wp2_with (go_at_call 168;refine (endr_of s k k (some j) HO.out HV.out _ (by omega) hk).mono ?_;rintro e w1 ⟨rfl,rfl⟩)
    go_ret3
    rw [HF.out]
    exact ⟨_,rfl,hown,hbel⟩
   ·have hne:((tO:Int) == (k:Int))=false:=by rw [beq_eq_false_iff_ne];omega
    have hsl:(s.extract k tO).data.toList=(s.data.toList.drop k).take j:=by rw [Lib.extract_data,show tO - k=j by omega]
    have hfin:R=(linesR (itL (s.data.toList.drop (tO+2)) (tO+2))).map fun p=>(acc++[(s.extract k tO).data.toList]++p.1,p.2):=by
     have hn0:(s.data.toList.drop k).take j≠[]:=by
      intro h
      have:=congrArg List.length h
      rw [List.length_take,List.length_drop,show s.data.toList.length=s.size from rfl] at this
      simp at this;omega
     rw [hacc.out,HIT.out,linesR,if_neg hn0,if_neg hj,hsl,show k+(j+2)=tO+2 by omega,show k+j+2=tO+2 by omega]
     rcases linesR (itL (s.data.toList.drop (tO+2)) (tO+2)) with _ | p<;>simp
    have HF:=Lib.hid hfin
    have hle1:(k:Int)≤(tO:Int):=by omega
    have hle2:(tO:Int)+2≤(s.size:Int):=by omega
    have hnn:(0:Int)≤tO:=by omega
    have hktO:k<tO:=by omega
    have HTO:=Lib.hid hto
    obtain ⟨x,hx⟩:∃ x,s.extract k tO=x:=⟨_,rfl⟩
    rw [hx] at HF
    have hxs:x.size≤1000000:=by rw [← hx,ByteArray.size_extract];omega
    clear hj hto hfin hsl
    go_wp2_with (first | (go_at_call 168;refine (endr_of s k tO (some j) HO.out HV.out _ (by omega) hk).mono ?_;rintro e w1 ⟨rfl,rfl⟩) | (at_builtin;refine push1 (by rfl) _ _ _ (by rfl) 9 (.string ⟨#[]⟩) 1 16 Tryz.underlying39 infoString rfl (by decide) w.heap.size wr _ _ _ (by rfl) hown [.string x] rfl (by simp [Value.oneCell']) (by rfl) (by omega) (by omega) hbel.size ?_;intro g cap w1 hg hown1 hgr hb1 hsz1))
    go_roundw
    case rel =>
     exact ⟨tO+2,acc++[x.data.toList],by go_num,by omega,by simp;omega,by rw [strCells_snoc,List.length_append];exact hown1,hbel.trans hb1,HF⟩
    case measure=>simp [intOf];omega
end Go.Proofs.YtmpiobfdchlikaaGreatDoor
end
section
set_option synthInstance.maxSize 4000
namespace Nun
open Go Go.RowKit
theorem step_ne {st st':List Fld × Bool} {l:List UInt8} (h:lineStep st l=some st'):st'.1≠[]:=by
 unfold lineStep at h
 split at h
 ·cases h
 ·split at h
  ·split at h
   ·cases h
   ·cases h;simp
  ·split at h
   ·cases h
   ·split at h
    ·cases h;simp
    ·cases h
theorem lines_ne:∀ (ls:List (List UInt8)) (st st':List Fld × Bool),linesL ls st=some st'→ls≠[]→st'.1≠[]
 | [],st,st',_,h=>absurd rfl h
 | [l],st,st',h,_=>by
   rw [linesL,List.foldlM_cons] at h
   obtain ⟨s1,h1,h2⟩:=Option.bind_eq_some_iff.1 h
   simp at h2;rw [← h2];exact step_ne h1
 | l::m::ls,st,st',h,_=>by
   rw [linesL,List.foldlM_cons] at h
   obtain ⟨s1,h1,h2⟩:=Option.bind_eq_some_iff.1 h
   exact lines_ne (m::ls) s1 st' h2 (by simp)
theorem lines_step (ls:List (List UInt8)) (k:Nat) (st0 st:List Fld × Bool) (hk:k<ls.length) (h:linesL (ls.take k) st0=some st):linesL (ls.take (k+1)) st0=lineStep st ls[k]:=by
 rw [List.take_succ_eq_append_getElem hk,linesL_snoc,h];rfl
theorem lines_bad (ls:List (List UInt8)) (k:Nat) (st0 st:List Fld × Bool) (hk:k<ls.length) (h:linesL (ls.take k) st0=some st) (hb:lineStep st ls[k]=none):linesL ls st0=none:=by
 have h1:=lines_step ls k st0 st hk h
 rw [hb] at h1
 have:ls=ls.take (k+1)++ls.drop (k+1):=(List.take_append_drop _ _).symm
 rw [this];unfold linesL at h1 ⊢
 rw [List.foldlM_append,h1];rfl
theorem row_more {w:World} {B e g cap m:Nat} {F0:List Fld} {q:Fld} {p:ByteArray} (hrow:w.ownsRow B e 2 (.slice (some ⟨g,0,none⟩) (m+1) cap) (m+1) (fldCells F0++[.string ⟨q.1.toArray⟩,.string ⟨q.2.toArray⟩])) (hm:F0.length=m) :
 (w.setCell ⟨g,m * 2+1,none⟩ (.string (⟨q.2.toArray⟩++p))).ownsRow B e 2 (.slice (some ⟨g,0,none⟩) (m+1) cap) (F0++[(q.1,q.2++p.data.toList)]).length (fldCells (F0++[(q.1,q.2++p.data.toList)])):=by
 have:=(hrow.stored (m * 2+1) (.string (⟨q.2.toArray⟩++p))).1
 rw [fldCells_snoc]
 dsimp only
 rw [List.length_append,hm,List.length_singleton]
 rw [List.set_append_right _ _ (by rw [fldCells_len];omega),fldCells_len,hm,show m * 2+1 - m * 2=1 by omega] at this
 have e:(ByteArray.mk q.2.toArray++p)=⟨(q.2++p.data.toList).toArray⟩:=by
  apply ByteArray.ext;apply Array.ext';simp
 rw [e] at this
 rw [← e];rw [← e] at this
 exact this
theorem ext_take (p:ByteArray) (d:Nat):p.extract 0 d=⟨(p.data.toList.take d).toArray⟩:=by
 apply ByteArray.ext;apply Array.ext'
 rw [Lib.extract_data,List.drop_zero,Nat.sub_zero]
theorem ext_drop (p:ByteArray) (d:Nat):p.extract d p.size=⟨(p.data.toList.drop d).toArray⟩:=by
 apply ByteArray.ext;apply Array.ext'
 rw [Lib.extract_data,List.take_of_length_le (by rw [List.length_drop];exact Nat.le_refl _)]
theorem row_push {w:World} {B e:Nat} {v:Value} {F:List Fld} {a b:List UInt8} {X Y:ByteArray} (h:w.ownsRow B e 2 v (F.length+1) (fldCells F++[.string X,.string Y])) (hX:X=⟨a.toArray⟩) (hY:Y=⟨b.toArray⟩):w.ownsRow B e 2 v (F.length+1) (fldCells (F++[(a,b)])):=by
 subst hX;subst hY
 rw [fldCells_snoc];exact h
theorem own_down {w:World} {b b':Nat} {e:TypeId} {size:Nat} {v:Value} {n:Nat} {xs:List Value} (h:w.ownsRow b e size v n xs) (hb:b'≤b):w.ownsRow b' e size v n xs:=⟨h.1,h.2.imp id fun ⟨g,cap,cur,h1,h2,h3⟩=>⟨g,cap,cur,h1,Nat.le_trans hb h2,h3⟩⟩
def trimFk (F:List Fld) (k:Nat):List Fld:=(F.take k).map (fun p=>(p.1,trimB p.2))++F.drop k
theorem trimmed_step (F:List Fld) (k:Nat) (hk:k<F.length) (q:Fld) (hq:F[k]=q):(fldCells (trimFk F k)).length=F.length * 2∧(fldCells (trimFk F k))[k * 2+1]? =some (.string ⟨q.2.toArray⟩)∧(fldCells (trimFk F k)).set (k * 2+1) (.string ⟨(trimB q.2).toArray⟩)=fldCells (trimFk F (k+1)):=by
 have hmix:fldCells (trimFk F k)=fldCells ((F.take k).map (fun p=>(p.1,trimB p.2)))++([.string ⟨q.1.toArray⟩,.string ⟨q.2.toArray⟩]++fldCells (F.drop (k+1))):=by
  unfold trimFk
  rw [List.drop_eq_getElem_cons hk,hq];simp [fldCells]
 have hml:(fldCells ((F.take k).map (fun p=>(p.1,trimB p.2)))).length=k * 2:=by rw [fldCells_len,List.length_map,List.length_take];omega
 refine ⟨?_,?_,?_⟩
 ·rw [fldCells_len];unfold trimFk;rw [List.length_append,List.length_map,List.length_take,List.length_drop];omega
 ·rw [hmix,List.getElem?_append_right (by omega),hml,show k * 2+1 - k * 2=1 by omega];rfl
 ·rw [hmix,List.set_append_right _ _ (by rw [hml];omega),hml,show k * 2+1 - k * 2=1 by omega]
  unfold trimFk
  rw [List.take_succ_eq_append_getElem hk,hq]
  simp [fldCells]
theorem ne58:∀ d:UInt8,d≠58→((d.toNat:Int) != 58)=true:=by decide +kernel
theorem long_or (L:Bool) (p:ByteArray) (b:Bool) (h:(L || decide ((998:Int)<p.size))=b):Value.bool b=.bool (L || decide (998<p.data.toList.length)):=by
 rw [← h];congr 2
 rw [decide_eq_decide,show p.data.toList.length=p.size from rfl];omega
def StrRow (v:Value) (ls:List (List UInt8)) (w:World):Prop:=∃ a n cap,v=.slice a n cap∧n=ls.length∧n≤cap∧(n=0∨∃ g o,a=some ⟨g,o,none⟩∧g<w.heap.size∧∀ (j:Nat) (x:List UInt8),ls[j]? =some x→w.cell? ⟨g,o+j,none⟩=some (.string ⟨x.toArray⟩))
theorem strRow_own {w:World} {B e:Nat} {v:Value} {ls:List (List UInt8)} (h:w.ownsRow B e 1 v ls.length (strCells ls)):StrRow v ls w:=by
 rcases row_form h with ⟨rfl,h0⟩ | ⟨g,cap,rfl,hB,hg,hc⟩
 ·exact ⟨_,_,_,rfl,h0.symm,Nat.le_refl _,.inl rfl⟩
 ·refine ⟨_,_,_,rfl,rfl,hc,.inr ⟨g,0,rfl,hg,fun j x hj=>?_⟩⟩
  have hjl:=(List.getElem?_eq_some_iff.1 hj).1
  have:=h.cellAt j (by omega)
  rw [Nat.zero_add,this,strCells,List.getElem?_map,hj];rfl
end Nun
namespace Go.Proofs.YtmpiobfdchlikaaGreatDoor
open Go Go.RowKit Nun
def splitRV:Split→World→Ending→World→Prop
 | .form,w,e,w'=>e=.returned (.tuple #[.slice none 0 0,.int .i64 0,.int .i64 7])∧Below w.heap.size w w'
 | .long,w,e,w'=>e=.returned (.tuple #[.slice none 0 0,.int .i64 0,.int .i64 6])∧Below w.heap.size w w'
 | .ok l b,w,e,w'=>∃ v,e=.returned (.tuple #[v,.int .i64 b,.int .i64 0])∧w'.ownsRow w.heap.size 41 2 v l.length (fldCells l)∧Below w.heap.size w w'
theorem right_of (s:ByteArray) (b:Bool) (h:s.data.toList.all shownC=b) (w:World) (hs:s.size≤maxLen):Calls Tryz.prog 112 #[.string s] w (Same (.bool b) w):=h ▸ right_ref s w hs
theorem namer_of (s:ByteArray) (b:Bool) (h:nameL s.data.toList=b) (w:World) (hs:s.size≤maxLen):Calls Tryz.prog 49 #[.string s] w (Same (.bool b) w):=h ▸ name_ref s w hs
theorem blankr_of (c:UInt8) (b:Bool) (h:blankC c=b) (w:World):Calls Tryz.prog 113 #[.int .u8 c.toNat] w (Same (.bool b) w):=h ▸ blank_ref13 c w
theorem infoFieldR:(Tryz.prog.info? 41).map (fun i=>(i.zero,i.size,i.bytes))=some (some (.agg #[.string ⟨#[]⟩,.string ⟨#[]⟩]),2,32):=by kernel_rfl
set_option maxHeartbeats 4000000 in
set_option maxRecDepth 100000 in
theorem split_ref (s:ByteArray) (w:World) (hs:s.size≤10000) (V:Split) (hV:splitL s.data.toList=V):Calls Tryz.prog 61 #[.string s] w (splitRV V w):=by
 rcases hR:linesR (itL s.data.toList 0) with _ | ⟨ls,at_⟩
 ·have hform:V=.form:=by rw [← hV];unfold splitL;rw [runHead_none _ _ hR]
  subst hform
  have HR:=Lib.hid hR;clear hR hV
  go_enter Tryz.func61,Tryz.ntmps61
  go_wp2_with (go_at_call 111;refine (lines_ref s _ (by omega) none HR.out).mono ?_;rintro e w1 ⟨rfl,hb1⟩)
  go_ret3
  exact ⟨rfl,hb1⟩
 ·have hrun:=runHead_some _ ([],false) _ _ hR
  have hlen:ls.length≤10000∧∀ x∈ls,x.length≤10000:=by
   have h1:=linesR_len _ _ _ hR
   have h2:=itL_count _ s.data.toList 0 (Nat.le_refl _)
   refine ⟨Nat.le_trans h1.1 (Nat.le_trans h2 hs),fun x hx=>?_⟩
   obtain ⟨b,hb⟩:=h1.2 x hx
   exact Nat.le_trans (itL_short _ _ _ (Nat.le_refl _) _ hb) hs
  have hne:=linesR_ne _ _ _ hR
  have HR:=Lib.hid hR
  have hVV:V=match linesL ls ([],false) with | none=>.form | some (_,true)=>.long | some (f,false)=>.ok (f.map fun p=>(p.1,trimB p.2)) at_:=by
   rw [← hV];unfold splitL;rw [hrun]
   rcases linesL ls ([],false) with _ | ⟨f,_ | _⟩<;>rfl
  have HV:=Lib.hid hVV
  obtain ⟨hln,hlx⟩:=hlen
  have HX:=Lib.hid hlx;have HNE:=Lib.hid hne
  clear hR hV hrun hVV hlx hne
  go_enter Tryz.func61,Tryz.ntmps61
  go_wp2_with (go_at_call 111;refine (lines_ref s _ (by omega) _ HR.out).mono ?_;rintro e w1 ⟨v,rfl,hown,hb1⟩;obtain ⟨a0,n0,cap0,rfl,hn0,hc0,hr0⟩:=strRow_own hown;have HN0:=Lib.hid hn0;have HR0:=Lib.hid hr0;clear hown hn0 hr0)
  have hbs:=hb1.size
  go_loopw [8,9,10,11,12] (fun v lg i _ _ wr=>∃ (k:Nat) (F:List Fld) (L:Bool),i=.int .i64 k∧k≤n0∧lg=.bool L∧wr.ownsRow w1.heap.size 41 2 v F.length (fldCells F)∧Below w1.heap.size w1 wr∧Hid (linesL (ls.take k) ([],false)=some (F,L)))
   (fun _ _ i _ _ _=>n0 - (intOf i).toNat)
  case atStart=>exact ⟨0,[],false,rfl,Nat.zero_le _,rfl,World.ownsRow_made (size:=2) w1 _ 0 (Nat.le_refl _) (by decide) (by decide),(Below.refl _ _).alloc (Nat.le_refl _) _,Lib.hid rfl⟩
  case round =>
   obtain ⟨k,F,L,rfl,hk,rfl,hown,hbel,hst⟩:=hrel
   have hbelw:Below w.heap.size w wr:=hb1.trans (hbel.mono hbs)
   by_cases hlt:k<n0
   ·have hkl:k<ls.length:=by rw [← HN0.out];exact hlt
    obtain ⟨g,o,rfl,hg,hrow⟩:=HR0.out.resolve_left (by omega)
    obtain ⟨p,hp⟩:∃ p:ByteArray,(⟨ls[k].toArray⟩:ByteArray)=p:=⟨_,rfl⟩
    have hpl:p.data.toList=ls[k]:=by rw [← hp]
    have hcell:=(hbel.cell (p:=⟨g,o+k,none⟩) hg).trans (hrow k _ (List.getElem?_eq_getElem hkl))
    rw [hp] at hcell
    have hgwr:g<wr.heap.size:=Nat.lt_of_lt_of_le hg hbel.size
    have hps:p.size≤10000:=by
     have:=HX.out ls[k] (List.getElem_mem _)
     rw [← hpl] at this;exact this
    have hpne:p.data.toList≠[]:=by rw [hpl];exact HNE.out _ (List.getElem_mem _)
    have hpos:0<p.size:=by
     rcases Nat.eq_zero_or_pos p.size with h | h
     ·exact absurd (List.eq_nil_of_length_eq_zero h) hpne
     ·exact h
    have hpm:p.size≤maxLen:=by unfold maxLen;omega
    have hLl:L=true∨(L=false∧(998:Int)<p.size)∨(L=false∧¬ (998:Int)<p.size):=by
     rcases L with _ | _
     ·by_cases h:(998:Int)<p.size
      ·exact .inr (.inl ⟨rfl,h⟩)
      ·exact .inr (.inr ⟨rfl,h⟩)
     ·exact .inl rfl
    have hbadV:lineStep (F,L) p.data.toList=none→V=.form:=by
     intro h
     rw [hpl] at h
     rw [HV.out,lines_bad ls k _ _ hkl hst.out h]
    have HPL:=Lib.hid hpl;have HBV:=Lib.hid hbadV;have HLL:=Lib.hid hLl;have HKL:=Lib.hid hkl
    have HRW:=Lib.hid hrow
    clear hp hpl hbadV hLl hrow hpne
    have hhead:=head_blank p hpos
    rcases hsh:p.data.toList.all shownC with _ | _
    ·have hVf:=HBV.out (step_hid hsh)
     have HSH:=Lib.hid hsh
     subst hVf
     clear hsh hhead
     rcases HLL.out with rfl | ⟨rfl,hll⟩ | ⟨rfl,hll⟩
     all_goals
      go_wp2_with (go_at_call 112;refine (right_of p false HSH.out _ hpm).mono ?_;rintro e w2 ⟨rfl,rfl⟩)
      go_ret3
      exact ⟨rfl,hbelw⟩
    ·rcases hbl:blankC p[0] with _ | _
     ·rw [hbl] at hhead
      have HSH:=Lib.hid hsh;have HBL:=Lib.hid hbl
      rcases hco:byteAt 58 p.data.toList with _ | c
      ·have hVf:=HBV.out (step_nocolon hhead hco)
       have hnc:∀ j,(hj:j<p.size)→((p[j].toNat:Int) != 58)=true:=by
        intro j hj
        have:=byteAt_none hco j
        rw [List.getElem?_eq_getElem (show j<p.data.toList.length from hj)] at this
        have h2:p[j]≠58:=fun h=>this (by rw [← h];rfl)
        exact ne58 _ h2
       have HNC:=Lib.hid hnc
       subst hVf
       clear hsh hbl hhead hco hnc
       rcases HLL.out with rfl | ⟨rfl,hll⟩ | ⟨rfl,hll⟩
       all_goals
        go_wp2_with (first | (go_at_call 112;refine (right_of p true HSH.out _ hpm).mono ?_;rintro e w2 ⟨rfl,rfl⟩) | (go_at_call 113;refine (blankr_of _ false HBL.out _).mono ?_;rintro e w2 ⟨rfl,rfl⟩))
        go_loopw [12] (fun j w4=>∃ d:Nat,j=.int .i64 d∧d≤p.size∧w4=wr) (fun j _=>p.size - (intOf j).toNat)
        case atStart=>exact ⟨0,rfl,Nat.zero_le _,rfl⟩
        case round =>
         obtain ⟨d,rfl,hd,rfl⟩:=hrel
         by_cases hdl:d<p.size
         ·have hq:=HNC.out d hdl
          go_wp2
          go_roundw
          case rel=>exact ⟨d+1,by go_num,by omega,trivial⟩
          case measure=>simp [intOf];omega
         ·obtain rfl:d=p.size:=by omega
          go_wp2
          go_ret3
          exact ⟨rfl,hbelw⟩
      ·have hcl:=byteAt_lt hco
       rw [show p.data.toList.length=p.size from rfl] at hcl
       have hnc:∀ j,(hj:j<c)→((p[j].toNat:Int) != 58)=true:=by
        intro j hj
        have:=byteAt_first hco j hj
        rw [List.getElem?_eq_getElem (show j<p.data.toList.length from Nat.lt_trans hj hcl)] at this
        have h2:p[j]≠58:=fun h=>this (by rw [← h];rfl)
        exact ne58 _ h2
       have hcc:((p[c].toNat:Int) != 58)=false:=by
        have:=byteAt_some hco
        rw [List.getElem?_eq_getElem (show c<p.data.toList.length from hcl)] at this
        have h2:p[c]=58:=Option.some.inj this
        rw [h2];rfl
       have HNC:=Lib.hid hnc
       rcases hna:nameL (p.data.toList.take c) with _ | _
       ·have hVf:=HBV.out (step_noname hhead hco hna)
        have HNA:=Lib.hid hna
        subst hVf
        clear hsh hbl hhead hco hnc hna
        rcases HLL.out with rfl | ⟨rfl,hll⟩ | ⟨rfl,hll⟩
        all_goals
         go_wp2_with (first | (go_at_call 112;refine (right_of p true HSH.out _ hpm).mono ?_;rintro e w2 ⟨rfl,rfl⟩) | (go_at_call 113;refine (blankr_of _ false HBL.out _).mono ?_;rintro e w2 ⟨rfl,rfl⟩))
         go_loopw [12] (fun j w4=>∃ d:Nat,j=.int .i64 d∧d≤c∧w4=wr) (fun j _=>p.size - (intOf j).toNat)
         case atStart=>exact ⟨0,rfl,Nat.zero_le _,rfl⟩
         case round =>
          obtain ⟨d,rfl,hd,rfl⟩:=hrel
          by_cases hdl:d<c
          ·have hdp:d<p.size:=by omega
           have hq:=HNC.out d hdl
           go_wp2
           go_roundw
           case rel=>exact ⟨d+1,by go_num,by omega,trivial⟩
           case measure=>simp [intOf];omega
          ·obtain rfl:d=c:=by omega
           have hnl:((d:Int) == (p.size:Int))=false:=by rw [beq_eq_false_iff_ne];omega
           go_wp2_with (go_at_call 49;refine (namer_of (p.extract 0 d) false (by rw [Lib.extract_data,List.drop_zero,Nat.sub_zero];exact HNA.out) _ (by rw [ByteArray.size_extract];unfold maxLen;omega)).mono ?_;rintro e w2 ⟨rfl,rfl⟩)
           go_ret3
           exact ⟨rfl,hbelw⟩
       ·obtain ⟨i0,hi0,hz0,hz1,hz2⟩:=info_parts infoFieldR
        have hstep:=step_field (st:=(F,L)) hsh hhead hco hna
        have hnext:linesL (ls.take (k+1)) ([],false)=some (F++[(p.data.toList.take c,p.data.toList.drop (c+1))],L || decide (998<p.data.toList.length)):=by rw [lines_step ls k _ _ HKL.out hst.out,← HPL.out];exact hstep
        have hFl:F.length≤k:=by
         have:=lines_len _ _ _ hst.out
         rw [List.length_take] at this
         simp only [List.length_nil,Nat.zero_add] at this;omega
        have HNX:=Lib.hid hnext
        have HNA:=Lib.hid hna
        clear hsh hbl hhead hco hnc hna hstep hnext
        rcases HLL.out with rfl | ⟨rfl,hll⟩ | ⟨rfl,hll⟩
        all_goals
         go_wp2_with (first | (go_at_call 112;refine (right_of p true HSH.out _ hpm).mono ?_;rintro e w2 ⟨rfl,rfl⟩) | (go_at_call 113;refine (blankr_of _ false HBL.out _).mono ?_;rintro e w2 ⟨rfl,rfl⟩))
         go_loopw [12] (fun j w4=>∃ d:Nat,j=.int .i64 d∧d≤c∧w4=wr) (fun j _=>p.size - (intOf j).toNat)
         case atStart=>exact ⟨0,rfl,Nat.zero_le _,rfl⟩
         case round =>
          obtain ⟨d,rfl,hd,rfl⟩:=hrel
          by_cases hdl:d<c
          ·have hdp:d<p.size:=by omega
           have hq:=HNC.out d hdl
           go_wp2
           go_roundw
           case rel=>exact ⟨d+1,by go_num,by omega,trivial⟩
           case measure=>simp [intOf];omega
          ·obtain rfl:d=c:=by omega
           have hnl:((d:Int) == (p.size:Int))=false:=by rw [beq_eq_false_iff_ne];omega
           go_wp2_with (go_at_call 49;refine (namer_of (p.extract 0 d) true (by rw [Lib.extract_data,List.drop_zero,Nat.sub_zero];exact HNA.out) _ (by rw [ByteArray.size_extract];unfold maxLen;omega)).mono ?_;rintro e w2 ⟨rfl,rfl⟩)
           have hw1:IntKind.i64.wrap ((d:Int)+1)=(d:Int)+1:=IntWalk.i64_in _ (by omega)
           have hw2:(0:Int)≤(d:Int)+1:=by omega
           have hw3:((d:Int)+1).toNat=d+1:=by omega
           have hw4:(k:Int)<(n0:Int):=by omega
           have hw5:(0:Int)≤(d:Int):=by omega
           have hw6:(d:Int)≤(p.size:Int):=by omega
           have hw7:(d:Int)+1≤(p.size:Int):=by omega
           have hw8:(d:Int).toNat=d:=by omega
           have hfar:(u8:Value).ownBlock≠some g:=by
            intro e
            have:=(hown.lt g e).1
            omega
           obtain ⟨X,hX⟩:∃ X:ByteArray,p.extract 0 d=X:=⟨_,rfl⟩
           obtain ⟨Y,hY⟩:∃ Y:ByteArray,p.extract (d+1) p.size=Y:=⟨_,rfl⟩
           have hwb:w1.heap.size≤wr.heap.size:=hbel.size
           go_region_held3 (fun w'=>w'.cell? ⟨g,o+k,none⟩=some (.string p)) (first | go_keep | exact hcell | (rw [hgrow.cell_far _ (by simp;omega) (Ne.symm hfar)];first | assumption | go_keep))
            ((refine step_append_lies _ (by rfl) _ _ _ (by rfl) w1.heap.size 41 i0 _ 2 32 Tryz.underlying33 hi0 hz0 hz1 hz2 rfl (by omega) u8 F.length (fldCells F) (by rfl) ((hown.alloc _).drew)
               ⟨wr.heap.size,0,none⟩ 1 1 [.string X,.string Y] (by rfl) (by rfl) (World.news_of_block (cs:=#[.string X,.string Y]) (t:=41) (fr:=(0,0)) (heap_alloc_new wr _)) (by simp [Value.oneCell'])
               (by omega) (by unfold maxLen;omega) (by omega) (by simp;omega) (wr.heap.size+1) (by simp) ?_;intro gg cap w5 hown5 hgrow hat hlt5))
           have HRO:=Lib.hid (row_push hown5 (show X=⟨(p.data.toList.take d).toArray⟩ by rw [← hX];exact ext_take _ _) (show Y=⟨(p.data.toList.drop (d+1)).toArray⟩ by rw [← hY];exact ext_drop _ _))
           have HBE:=Lib.hid (Below.grown (((hbel.alloc hwb _).drew)) hgrow (by simp;omega) (fun k h=>(hown.lt k h).1))
           clear hown5 hgrow hX hY
           go_wp2
           go_roundw
           case rel=>exact ⟨k+1,F++[(p.data.toList.take d,p.data.toList.drop (d+1))],_,by go_num,by omega,long_or _ p _ (by first | rfl | simp [*]),by rw [List.length_append];exact HRO.out,HBE.out,HNX⟩
           case measure=>simp [intOf];omega
     ·rw [hbl] at hhead
      have HSH:=Lib.hid hsh;have HBL:=Lib.hid hbl;have HH:=Lib.hid hhead
      clear hsh hbl hhead
      rcases Nat.eq_zero_or_pos k with h0 | hk0
      ·have hF:F=[]:=by
        have:=hst.out;rw [h0] at this
        simp [linesL] at this;exact this.1
       have hVf:=HBV.out (step_blank_nil HH.out hF)
       subst hVf
       have hk0:((k:Int) == 0)=true:=by rw [h0];rfl
       clear hF h0
       rcases HLL.out with rfl | ⟨rfl,hll⟩ | ⟨rfl,hll⟩
       all_goals
        go_wp2_with (first | (go_at_call 112;refine (right_of p true HSH.out _ hpm).mono ?_;rintro e w2 ⟨rfl,rfl⟩) | (go_at_call 113;refine (blankr_of _ true HBL.out _).mono ?_;rintro e w2 ⟨rfl,rfl⟩))
        go_ret3
        exact ⟨rfl,hbelw⟩
      ·have hFne:F≠[]:=lines_ne _ _ _ hst.out (by intro h;have h2:=congrArg List.length h;rw [List.length_take,List.length_nil] at h2;have:=HKL.out;omega)
       obtain ⟨F0,q,rfl⟩:∃ F0 q,F=F0++[q]:=⟨F.dropLast,F.getLast hFne,(List.dropLast_concat_getLast hFne).symm⟩
       have hFl:(F0++[q]).length≤k:=by
        have:=lines_len _ _ _ hst.out
        rw [List.length_take] at this
        simp only [List.length_nil,Nat.zero_add] at this;omega
       have hqv:q.2.length≤10000 * k:=by
        have:=lines_vals _ _ _ 0 10000 hst.out (by simp) (fun l hl=>HX.out l (List.mem_of_mem_take hl)) q (by simp)
        rw [List.length_take,Nat.zero_add] at this
        exact Nat.le_trans this (Nat.mul_le_mul (Nat.le_refl _) (Nat.min_le_left _ _))
       obtain ⟨m,hm0⟩:∃ m,F0.length=m:=⟨_,rfl⟩
       have hlen1:(F0++[q]).length=m+1:=by rw [List.length_append,hm0];rfl
       rw [hlen1,fldCells_snoc] at hown
       rw [hlen1] at hFl
       obtain ⟨gf,cap,rfl,hg0,hglt,hcap⟩:∃ gf cap,u8=.slice (some ⟨gf,0,none⟩) (m+1) cap∧w1.heap.size≤gf∧gf<wr.heap.size∧m+1≤cap:=by
        rcases row_form hown with ⟨_,h⟩ | ⟨gf,cap,h⟩
        ·omega
        ·exact ⟨gf,cap,h⟩
       have hcf:=hown.cellAt (m * 2+1) (by omega)
       rw [List.getElem?_append_right (by rw [fldCells_len];omega),fldCells_len,hm0,show m * 2+1 - m * 2=1 by omega] at hcf
       have hcf':wr.cell? ⟨gf,m * 2+1,none⟩=some (.string ⟨q.2.toArray⟩):=hcf
       have hff:=hown.frozenAt (m * 2+1)
       have hqs:(ByteArray.mk q.2.toArray).size≤200000000:=by show q.2.length≤_;omega
       have hstep:=step_blank (st:=(F0++[q],L)) HSH.out HH.out rfl
       have hnext:linesL (ls.take (k+1)) ([],false)=some (F0++[(q.1,q.2++p.data.toList)],L || decide (998<p.data.toList.length)):=by rw [lines_step ls k _ _ HKL.out hst.out,← HPL.out];exact hstep
       have HNX:=Lib.hid hnext;have HOWN:=Lib.hid hown;have HM:=Lib.hid hm0
       have hk0':((k:Int) == 0)=false:=by rw [beq_eq_false_iff_ne];omega
       have hml:m≤10000:=by omega
       clear hFne hlen1 hcf hown hstep hnext hm0 hk0
       have hclq:=fun d os=>cell_regrown hcell d os
       have hcgq:=fun d os=>cell_regrown hcf' d os
       have hmi:(m:Int)<(m:Int)+1:=by omega
       rcases HLL.out with rfl | ⟨rfl,hll⟩ | ⟨rfl,hll⟩
       all_goals
        go_wp2_with (first | (go_at_call 112;refine (right_of p true HSH.out _ hpm).mono ?_;rintro e w2 ⟨rfl,rfl⟩) | (go_at_call 113;refine (blankr_of _ true HBL.out _).mono ?_;rintro e w2 ⟨rfl,rfl⟩))
        (refine region_quiet_tail_below 12 (by kernel_rfl) (by kernel_rfl) ?_;simp only [List.take_succ_cons,List.take_zero];(repeat (first | go_big_quiet_skip | (go_big_quiet_want;go_big_quiet_op;first | go_big_quiet_on | (apply Exists.intro;refine ⟨fun _=>?_,?_⟩;(· (fail));go_big_quiet_on))));refine wpQuiet_nil ?_;intro wq hbq;simp only [List.drop_succ_cons,List.drop_zero])
        have hcf5:=(hbq.cell (p:=⟨gf,m * 2+1,none⟩) hglt).trans hcf'
        have hff5:=(hbq.frozen (p:=⟨gf,m * 2+1,none⟩) hglt).trans hff
        have HRO:=Lib.hid (row_more (p:=p) (own_below HOWN.out hbq) HM.out)
        have HBE:=Lib.hid ((hbel.trans (hbq.mono hbel.size)).setCell (p:=⟨gf,m * 2+1,none⟩) hg0 (.string (⟨q.2.toArray⟩++p)))
        clear hclq hcgq hcell hcf' hff
        go_wp2
        go_roundw
        case rel=>exact ⟨k+1,_,_,by go_num,by omega,long_or _ p _ (by first | rfl | simp [*]),HRO.out,HBE.out,HNX⟩
        case measure=>simp [intOf];omega
   ·obtain rfl:k=n0:=by omega
    have hall:linesL ls ([],false)=some (F,L):=by
     have:=hst.out;rw [HN0.out,List.take_length] at this;exact this
    have hFl:F.length≤10000:=by
     have:=lines_len _ _ _ hall
     simp only [List.length_nil,Nat.zero_add] at this;omega
    have hFv:∀ q∈F,q.2.length≤100000000:=by
     intro q hq
     have:=lines_vals _ _ _ 0 10000 hall (by simp) (fun l hl=>HX.out l hl) q hq
     rw [Nat.zero_add] at this
     exact Nat.le_trans this (Nat.mul_le_mul (Nat.le_refl _) hln)
    have hVV:=HV.out
    rw [hall] at hVV
    have HFV:=Lib.hid hFv
    clear hall hFv
    rcases L with _ | _
    ·replace hVV:V=.ok (F.map fun p=>(p.1,trimB p.2)) at_:=hVV
     subst hVV
     obtain ⟨n,hn⟩:∃ n,F.length=n:=⟨_,rfl⟩
     rw [hn] at hown hFl
     have HN:=Lib.hid hn;clear hn
     obtain ⟨a1,cap1,rfl,ha1⟩:∃ a1 cap1,u8=.slice a1 n cap1∧(n=0∨∃ g,a1=some ⟨g,0,none⟩∧w1.heap.size≤g∧g<wr.heap.size∧n≤cap1):=by
      rcases row_form hown with ⟨h,h0⟩ | ⟨g,cap,h,h1,h2,h3⟩
      ·exact ⟨none,0,by rw [h,h0],.inl h0⟩
      ·exact ⟨_,_,h,.inr ⟨g,rfl,h1,h2,h3⟩⟩
     have HA:=Lib.hid ha1;clear ha1
     go_wp2
     go_loopw [13] (fun i w4=>∃ j:Nat,i=.int .i64 j∧j≤n∧Hid (w4.ownsRow w1.heap.size 41 2 (.slice a1 n cap1) n (fldCells (trimFk F j)))∧Hid (Below w1.heap.size w1 w4))
      (fun i _=>n - (intOf i).toNat)
     case atStart=>exact ⟨0,rfl,Nat.zero_le _,Lib.hid (by simpa [trimFk] using hown),Lib.hid hbel⟩
     case round =>
      rename_i i4 w4
      clear hown hbel hbelw
      obtain ⟨j,rfl,hj,HROW,HB⟩:=hrel
      by_cases hlt2:j<n
      ·obtain ⟨g,rfl,hg0,_,hcap⟩:=HA.out.resolve_left (by omega)
       have hjF:j<F.length:=by rw [HN.out];exact hlt2
       obtain ⟨q,hq⟩:∃ q,F[j]=q:=⟨_,rfl⟩
       obtain ⟨ht1,ht2,ht3⟩:=trimmed_step F j hjF q hq
       have hcell:=HROW.out.cellAt (j * 2+1) (by omega)
       rw [ht2] at hcell
       have hfro:=HROW.out.frozenAt (j * 2+1)
       have hqs:(ByteArray.mk q.2.toArray).size≤1000000000:=by
        have:=HFV.out q (by rw [← hq];exact List.getElem_mem _)
        show q.2.length≤_;omega
       have hji:(j:Int)<(n:Int):=by omega
       have hR:=(HROW.out.stored (j * 2+1) (.string ⟨(trimB q.2).toArray⟩)).1
       rw [ht3] at hR
       have HRO:=Lib.hid hR
       have HBE:=Lib.hid (HB.out.setCell (p:=⟨g,j * 2+1,none⟩) hg0 (.string ⟨(trimB q.2).toArray⟩))
       clear ht1 ht2 ht3 hR
       go_wp2_with (go_at_call 114;refine (trim_ref _ _ hqs).mono ?_;rintro e w5 ⟨rfl,rfl⟩)
       go_roundw
       case rel=>exact ⟨j+1,by go_num,by omega,HRO,HBE⟩
       case measure=>simp [intOf];omega
      ·obtain rfl:j=n:=by omega
       go_wp2
       go_ret3
       refine ⟨_,rfl,?_,hb1.trans (HB.out.mono hbs)⟩
       have h:=own_down HROW.out hbs
       unfold trimFk at h
       rw [List.take_of_length_le (by rw [HN.out];exact Nat.le_refl _),List.drop_of_length_le (by rw [HN.out];exact Nat.le_refl _),List.append_nil] at h
       rw [List.length_map,HN.out];exact h
    ·replace hVV:V=.long:=hVV
     subst hVV
     go_wp2
     go_ret3
     exact ⟨rfl,hbelw⟩
end Go.Proofs.YtmpiobfdchlikaaGreatDoor
end
section
namespace Nun
open Go Go.RowKit Go.Proofs Go.Proofs.YtmpiobfdchlikaaGreatDoor
structure RowRes where
 cells:List Value
 n:Nat
 size:Nat
 e:TypeId
 ex:List Value
def RowOk (P:Program) (Γ:Glob) (f:FuncId) (spec:List Value→Option RowRes):Prop:=entersB P f=true∧∀ vs R,spec vs=some R→((∀ v∈R.cells,flatV v=true∧v.oneCell'=true)∧(∀ v∈R.ex,flatV v=true)∧R.ex≠[])∧∀ w,Γ.G w→Calls P f vs.toArray w fun e w'=>∃ v,e=.returned (.tuple (v::R.ex).toArray)∧w'.ownsRow w.heap.size R.e R.size v R.n R.cells∧Below w.heap.size w w'
def rowLib (k:FuncId) (spec:List Value→Option RowRes):Nun.Callee:=fun f args bx oc=>match bx,oc with
 | [],[]=>if f=k then ((flats args).bind spec).map fun R=>(.slc R.n (R.cells.map .flat)::R.ex.map .flat,false,[],[]) else none
 | _,_=>none
theorem rds_flats {w:World} {Fr:Nat→Nat} {β:List Nat}:∀ {l:List Value},(∀ v∈l,flatV v=true)→Rds w Fr β (l.map .flat) l
 | [],_=>by simp [Rds]
 | v::l,h=>by
   simp only [List.map_cons,Rds]
   exact ⟨v,l,rfl,by unfold Rd;exact ⟨rfl,h v List.mem_cons_self⟩,rds_flats fun x hx=>h x (List.mem_cons_of_mem _ hx)⟩
theorem rowLib_ok {P:Program} {Γ:Glob} {k:FuncId} {spec:List Value→Option RowRes} (hk:k≠yldF) (h:RowOk P Γ k spec):CallOk P Γ (rowLib k spec):=by
 intro f args bx oc vs' os bx' oc' he
 unfold rowLib at he
 split at he
 case h_2=>cases he
 split at he
 case isFalse=>cases he
 rename_i hf
 subst hf
 obtain ⟨R,hR,he⟩:=Option.map_eq_some_iff.1 he
 cases he
 obtain ⟨us,hus,hsp⟩:=Option.bind_eq_some_iff.1 hR
 obtain ⟨h1,h2⟩:=h
 obtain ⟨⟨hc,hex,hne⟩,h4⟩:=h2 us R hsp
 intro w Fr β vs hp
 refine enters_of h1 hk ?_
 obtain rfl:=flats_rds hus hp.args
 refine (h4 w hp.g).mono ?_
 rintro e w' ⟨v,rfl,hown,hb⟩
 obtain ⟨Fr',hFr'⟩:∃ F:Nat→Nat,F=fun g=>if v.ownBlock=some g then R.cells.length else Fr g:=⟨_,rfl⟩
 have hold:∀ g,g<w.heap.size→Fr' g=Fr g:=fun g hg=>by
  rw [hFr'];dsimp only
  rw [if_neg]
  intro e
  have:=(hown.lt g e).1
  omega
 obtain ⟨Rl,hl⟩:=hp.rel.grow hb (Fr':=Fr') hold
 have hrow:Rd w' Fr' β (.slc R.n (R.cells.map .flat)) v:=by
  simp only [Rd]
  have hlen:=hown.1
  rcases hown.2 with ⟨rfl,h0⟩ | ⟨g,cap,cur,rfl,hg,hcur,hnc,_⟩
  ·refine ⟨none,0,by rw [h0],by omega,.inl ⟨?_,h0⟩⟩
   rw [h0,Nat.zero_mul] at hlen
   rw [List.eq_nil_of_length_eq_zero hlen];rfl
  ·refine ⟨some ⟨g,0,none⟩,cap,rfl,hnc,.inr ⟨g,0,R.cells,rfl,fun j u hj=>?_,rds_flats fun x hx=>(hc x hx).1,fun x hx=>(hc x hx).2⟩⟩
   have hjl:=(List.getElem?_eq_some_iff.1 hj).1
   refine ⟨?_,?_⟩
   ·rw [hFr'];dsimp only
    rw [if_pos (show (Value.slice (some ⟨g,0,none⟩) R.n cap).ownBlock=some g from rfl)];omega
   ·rw [Nat.zero_add,hown.cellAt j (by rw [← hlen];exact hjl),hj]
 refine ⟨_,Fr',β,rfl,?_,Rl,hl,(fun L h=>by cases h),fun h=>by cases h⟩
 obtain ⟨x,l,hxl⟩:=List.exists_cons_of_ne_nil hne
 have ht:tupOf (.slc R.n (R.cells.map .flat)::R.ex.map .flat)=.tup (.slc R.n (R.cells.map .flat)::R.ex.map .flat):=by rw [hxl];rfl
 rw [ht]
 simp only [Rd,Rds]
 exact ⟨v::R.ex,rfl,v,R.ex,rfl,hrow,rds_flats hex⟩
def sSplit:List Value→Option RowRes
 | [.string s]=>if s.size≤10000 then some (match splitL s.data.toList with
   | .form=>⟨[],0,2,41,[.int .i64 0,.int .i64 7]⟩
   | .long=>⟨[],0,2,41,[.int .i64 0,.int .i64 6]⟩
   | .ok l b=>⟨fldCells l,l.length,2,41,[.int .i64 b,.int .i64 0]⟩) else none
 | _=>none
theorem fSplit {Γ:Glob}:RowOk Tryz.prog Γ 61 sSplit:=⟨by kernel_rfl,fun vs R h=>by
 unfold sSplit at h
 split at h
 ·rename_i s
  split at h
  ·rename_i hs
   obtain ⟨V,hV⟩:∃ V,splitL s.data.toList=V:=⟨_,rfl⟩
   rw [hV] at h
   have hc:=fun w=>split_ref s w hs V hV
   cases V with
   | form =>
     cases h
     exact ⟨⟨fun v h=>(by cases h),fun v h=>(by simp at h;rcases h with rfl | rfl<;>rfl),by simp⟩,fun w _=>(hc w).mono (by rintro e w' ⟨rfl,hb⟩;exact ⟨_,rfl,World.ownsRow_nil _ _ _ _,hb⟩)⟩
   | long =>
     cases h
     exact ⟨⟨fun v h=>(by cases h),fun v h=>(by simp at h;rcases h with rfl | rfl<;>rfl),by simp⟩,fun w _=>(hc w).mono (by rintro e w' ⟨rfl,hb⟩;exact ⟨_,rfl,World.ownsRow_nil _ _ _ _,hb⟩)⟩
   | ok l b =>
     cases h
     refine ⟨⟨fun v h=>?_,fun v h=>(by simp at h;rcases h with rfl | rfl<;>rfl),by simp⟩,fun w _=>(hc w).mono (by rintro e w' ⟨v,rfl,ho,hb⟩;exact ⟨v,rfl,ho,hb⟩)⟩
     have:∀ l:List Fld,∀ v∈fldCells l,flatV v=true∧v.oneCell'=true:=by
      intro l
      induction l with
      | nil=>intro v h;simp [fldCells] at h
      | cons a l ih =>
        intro v h
        simp only [fldCells,List.flatMap_cons,List.mem_append,List.mem_cons,List.not_mem_nil,or_false] at h
        rcases h with (rfl | rfl) | h
        ·exact ⟨rfl,rfl⟩
        ·exact ⟨rfl,rfl⟩
        ·exact ih v h
     exact this l v h
  ·cases h
 ·cases h⟩
end Nun
end
section
namespace Go.Proofs.YtmpiobfdchlikaaGreatDoor
open Go.RowKit Nun
theorem enc64_len36 (n:Nat):∀ l:List UInt8,l.length≤n→(enc64 l).length=(l.length+2) / 3 * 4:=by
 induction n with
 | zero=>intro l h
         have:l=[]:=List.eq_nil_of_length_eq_zero (by omega)
         subst this;simp [enc64]
 | succ n ih =>
   intro l h
   match l,h with
   | [],_=>simp [enc64]
   | [a],_=>simp [enc64,quad_len]
   | [a,b],_=>simp [enc64,quad_len]
   | a::b::c::l,h=>rw [enc64,List.length_append,quad_len,ih l (by simp at h;omega)];simp;omega
theorem encL_len36:∀ (s:List UInt8) (line:Nat),(encL line s).length≤6 * s.length
 | [],_=>by simp [encL]
 | c::t,line=>by
   have hp:=(piece_len c t).2
   unfold encL
   split
   ·have:=encL_len36 t 0;simp only [List.length_cons];omega
   ·split
    ·have:=encL_len36 t (piece c t).length
     simp only [List.length_append,List.length_cons,List.length_nil];omega
    ·have:=encL_len36 t (line+(piece c t).length)
     simp only [List.length_append,List.length_cons];omega
theorem or_r {a b:Nun.Callee} {f:FuncId} {args:List PV} {bx:Boxes} {oc:List Nun.Loc} (h:a f args bx oc=none):orLib a b f args bx oc=b f args bx oc:=by unfold orLib;rw [h]
theorem or_l {a b:Nun.Callee} {f:FuncId} {args:List PV} {bx:Boxes} {oc:List Nun.Loc} {r:Nun.Ans} (h:a f args bx oc=some r):orLib a b f args bx oc=some r:=by unfold orLib;rw [h]
theorem bld_no {f:FuncId} (h1:f≠95) (h2:f≠28) {args:List PV} {bx:Boxes} {oc:List Nun.Loc}:bldLib f args bx oc=none:=by unfold bldLib;rw [if_neg h1,if_neg h2]
theorem nest_no {f:FuncId} (h1:f≠57) {args:List PV} {bx:Boxes} {oc:List Nun.Loc}:nestLib f args bx oc=none:=by unfold nestLib;rw [dif_neg (fun h=>h1 h.1)]
noncomputable def lib36:Nun.Callee:=orLib bldLib (orLib nestLib (orLib (flatLib (oneF 32 sIdx)) (orLib (flatLib (oneF 34 sLast)) (orLib (flatLib (oneF 35 sCon)) (orLib (flatLib (oneF 74 sPre)) (orLib (flatLib (oneF 150 (sEnc enc64))) (orLib (flatLib (oneF 155 (sEnc enc64))) (orLib (flatLib (oneF 48 (sEnc (encL 0)))) (orLib (flatLib (oneF 51 (sEnc (encL 0)))) (rowLib 61 sSplit))))))))))
theorem lib36_ok:CallOk Tryz.prog Γ36 lib36 :=
 orLib_ok bldLib_ok (orLib_ok nestLib_ok (orLib_ok (oneF_ok (by decide) fIdx) (orLib_ok (oneF_ok (by decide) fLast) (orLib_ok (oneF_ok (by decide) fCon) (orLib_ok (oneF_ok (by decide) fPre) (orLib_ok (oneF_ok (by decide) fB64) (orLib_ok (oneF_ok (by decide) fR64) (orLib_ok (oneF_ok (by decide) fQp) (orLib_ok (oneF_ok (by decide) fRq) (rowLib_ok (by decide) fSplit))))))))))
theorem S_list {s:Str}:(S s).data.toList=s:=by simp [S]
theorem c_nat (c:UInt8):((c.toNat:Nat):Int).toNat.toUInt8=c:=by
 rw [Int.toNat_natCast];simp
theorem l36_bld:BldIn lib36:=bldIn_or
theorem l36_nest:LibNest lib36:=fun L hL=>by
 unfold lib36
 rw [or_r (bld_no (by decide) (by decide))]
 exact or_l (nestLib_eq L hL)
theorem l36_idx:LibIdx lib36:=fun s c hs=>by
 unfold lib36
 rw [or_r (bld_no (by decide) (by decide)),or_r (nest_no (by decide))]
 exact or_l (oneF_at rfl (by unfold sIdx;dsimp only;rw [if_pos (by rw [S_size];exact hs),S_list,c_nat,ix_at1];rfl))
theorem l36_last:LibLast lib36:=fun s c hs=>by
 unfold lib36
 rw [or_r (bld_no (by decide) (by decide)),or_r (nest_no (by decide)),or_r (oneF_no (by decide))]
 exact or_l (oneF_at rfl (by unfold sLast;dsimp only;rw [if_pos (by rw [S_size];exact hs),lastI_lib];rfl))
theorem l36_con:LibCon lib36:=fun s hs=>by
 unfold lib36
 rw [or_r (bld_no (by decide) (by decide)),or_r (nest_no (by decide)),or_r (oneF_no (by decide)),or_r (oneF_no (by decide))]
 exact or_l (oneF_at rfl (by unfold sCon;dsimp only;rw [if_pos (by rw [S_size];exact hs),S_list,S_list,stands_lib _ (by simp)]))
theorem l36_pre:LibPre lib36:=fun s p hs hp=>by
 unfold lib36
 rw [or_r (bld_no (by decide) (by decide)),or_r (nest_no (by decide)),or_r (oneF_no (by decide)),or_r (oneF_no (by decide)),or_r (oneF_no (by decide))]
 exact or_l (oneF_at rfl (by unfold sPre;dsimp only;rw [S_list,S_list];rfl))
theorem l36_b64:LibB64 lib36 enc64:=fun s hs=>by
 refine ⟨by rw [enc64_len36 _ s (Nat.le_refl _)];omega,?_⟩
 unfold lib36
 rw [or_r (bld_no (by decide) (by decide)),or_r (nest_no (by decide)),or_r (oneF_no (by decide)),or_r (oneF_no (by decide)),or_r (oneF_no (by decide)),or_r (oneF_no (by decide))]
 exact or_l (oneF_at rfl (by unfold sEnc;dsimp only;rw [if_pos (by rw [S_size];omega),S_list]))
theorem l36_r64:LibR64 lib36 enc64:=fun s hs=>by
 refine ⟨by rw [enc64_len36 _ s (Nat.le_refl _)];omega,?_⟩
 unfold lib36
 rw [or_r (bld_no (by decide) (by decide)),or_r (nest_no (by decide)),or_r (oneF_no (by decide)),or_r (oneF_no (by decide)),or_r (oneF_no (by decide)),or_r (oneF_no (by decide)),or_r (oneF_no (by decide))]
 exact or_l (oneF_at rfl (by unfold sEnc;dsimp only;rw [if_pos (by rw [S_size];omega),S_list]))
theorem l36_qp:LibQp lib36 (encL 0):=fun s hs=>by
 refine ⟨by have:=encL_len36 s 0;omega,?_⟩
 unfold lib36
 rw [or_r (bld_no (by decide) (by decide)),or_r (nest_no (by decide)),or_r (oneF_no (by decide)),or_r (oneF_no (by decide)),or_r (oneF_no (by decide)),or_r (oneF_no (by decide)),or_r (oneF_no (by decide)),or_r (oneF_no (by decide))]
 exact or_l (oneF_at rfl (by unfold sEnc;dsimp only;rw [if_pos (by rw [S_size];omega),S_list]))
theorem l36_rq:LibRq lib36 (encL 0):=fun s hs=>by
 unfold lib36
 rw [or_r (bld_no (by decide) (by decide)),or_r (nest_no (by decide)),or_r (oneF_no (by decide)),or_r (oneF_no (by decide)),or_r (oneF_no (by decide)),or_r (oneF_no (by decide)),or_r (oneF_no (by decide)),or_r (oneF_no (by decide)),or_r (oneF_no (by decide))]
 exact or_l (oneF_at rfl (by unfold sEnc;dsimp only;rw [if_pos (by rw [S_size];omega),S_list]))
theorem law36_of (HA:evW code lib36 15 [] [] []=some ([.flat (.bool true)],false,[],[])) (m:Mail) (s:Str) (h1:m.fr.length≤9223372036854775807) (h2:m.to.length≤9223372036854775807) (h3:m.su.length≤9223372036854775807) (h4:m.te.length≤9223372036854775807) (h5:m.ht.length≤9223372036854775807) (h6:s.length≤9223372036854775807) :
 evW code lib36 3 [.agg (mcell m),.flat (.string (S s))] [] []=some ([.flat (.bool true)],false,[],[]) :=
 law36b_ev l36_b64 l36_r64 l36_qp l36_rq l36_idx l36_last l36_con l36_pre l36_bld l36_nest HA m s h1 h2 h3 h4 h5 h6
end Go.Proofs.YtmpiobfdchlikaaGreatDoor
end
section
namespace Nun
open Go Go.RowKit Go.Proofs Go.Proofs.YtmpiobfdchlikaaGreatDoor
variable {lib:Callee}
theorem kev {f:FuncId} {args:List PV} {r:Ans} (h:evF code2 lib 1000 f args [] []=some r):evW code lib f args [] []=some r:=evW_iff.2 ⟨1000,by rw [code_eq];exact h⟩
def fcells:List Fld→List PV
 | []=>[]
 | (a,b)::l=>.flat (.string (S a))::.flat (.string (S b))::fcells l
def LibSplit (lib:Callee):Prop:=∀ (s:Str) (F:List Fld) (b:Nat),s.length≤10000→splitL s=.ok F b→lib 61 [.flat (.string (S s))] [] []=some ([.slc F.length (fcells F),.flat (.int .i64 (b:Nat)),.flat (.int .i64 0)],false,[],[])
def ctN:Str:=[67,111,110,116,101,110,116,45,84,121,112,101]
def cteN:Str:=[67,111,110,116,101,110,116,45,84,114,97,110,115,102,101,114,45,69,110,99,111,100,105,110,103]
def qpN:Str:=[113,117,111,116,101,100,45,112,114,105,110,116,97,98,108,101]
def typeU (kind:Str):Str:=[116,101,120,116,47]++kind
def valU (kind:Str):Str:=[116,101,120,116,47]++kind++[59,32,99,104,97,114,115,101,116,61,117,116,102,45,56]
def multiT:Str:=[109,117,108,116,105,112,97,114,116,47,97,108,116,101,114,110,97,116,105,118,101]
def multiV:Str:=[109,117,108,116,105,112,97,114,116,47,97,108,116,101,114,110,97,116,105,118,101,59,32,98,111,117,110,100,97,114,121,61,34,61,95,110,117,110,99,105,111,34]
def boundS:Str:=[61,95,110,117,110,99,105,111]
theorem split_ev (HS:LibSplit lib) (s:Str) (F:List Fld) (b:Nat) (hs:s.length≤10000) (h:splitL s=.ok F b):evW code lib 61 [.flat (.string (S s))] [] []=some ([.slc F.length (fcells F),.flat (.int .i64 (b:Nat)),.flat (.int .i64 0)],false,[],[]) :=
 evW_lib (by decide) (by kernel_rfl) (HS s F b hs h)
theorem par_p:evW code lib 63 [.flat (.string (S (valU plainS)))] [] []=some ([.flat (.string (S (typeU plainS))),.slc 1 [.flat (.string (S [99,104,97,114,115,101,116])),.flat (.string (S [117,116,102,45,56]))],.flat (.int .i64 0)],false,[],[]):=kev (by kernel_rfl)
theorem par_h:evW code lib 63 [.flat (.string (S (valU htmlS)))] [] []=some ([.flat (.string (S (typeU htmlS))),.slc 1 [.flat (.string (S [99,104,97,114,115,101,116])),.flat (.string (S [117,116,102,45,56]))],.flat (.int .i64 0)],false,[],[]):=kev (by kernel_rfl)
theorem par_m:evW code lib 63 [.flat (.string (S multiV))] [] []=some ([.flat (.string (S multiT)),.slc 1 [.flat (.string (S [98,111,117,110,100,97,114,121])),.flat (.string (S boundS))],.flat (.int .i64 0)],false,[],[]):=kev (by kernel_rfl)
theorem fo_p:evW code lib 64 [.flat (.string (S (typeU plainS)))] [] []=some ([.flat (.string (S (typeU plainS)))],false,[],[]):=kev (by kernel_rfl)
theorem fo_h:evW code lib 64 [.flat (.string (S (typeU htmlS)))] [] []=some ([.flat (.string (S (typeU htmlS)))],false,[],[]):=kev (by kernel_rfl)
theorem fo_m:evW code lib 64 [.flat (.string (S multiT))] [] []=some ([.flat (.string (S multiT))],false,[],[]):=kev (by kernel_rfl)
theorem fo_c:evW code lib 64 [.flat (.string (S [99,104,97,114,115,101,116]))] [] []=some ([.flat (.string (S [99,104,97,114,115,101,116]))],false,[],[]):=kev (by kernel_rfl)
theorem fo_b:evW code lib 64 [.flat (.string (S [98,111,117,110,100,97,114,121]))] [] []=some ([.flat (.string (S [98,111,117,110,100,97,114,121]))],false,[],[]):=kev (by kernel_rfl)
theorem fo_q:evW code lib 64 [.flat (.string (S qpN))] [] []=some ([.flat (.string (S qpN))],false,[],[]):=kev (by kernel_rfl)
theorem fo_0:evW code lib 64 [.flat (.string (S []))] [] []=some ([.flat (.string (S []))],false,[],[]):=kev (by kernel_rfl)
theorem ty_p:evW code lib 65 [.flat (.string (S (typeU plainS)))] [] []=some ([.flat (.bool true)],false,[],[]):=kev (by kernel_rfl)
theorem ty_h:evW code lib 65 [.flat (.string (S (typeU htmlS)))] [] []=some ([.flat (.bool true)],false,[],[]):=kev (by kernel_rfl)
theorem ty_m:evW code lib 65 [.flat (.string (S multiT))] [] []=some ([.flat (.bool true)],false,[],[]):=kev (by kernel_rfl)
theorem be_p:evW code lib 60 [.flat (.string (S (typeU plainS))),.flat (.string (S [109,117,108,116,105,112,97,114,116,47])),.flat (.int .i64 0)] [] []=some ([.flat (.bool false)],false,[],[]):=kev (by kernel_rfl)
theorem be_h:evW code lib 60 [.flat (.string (S (typeU htmlS))),.flat (.string (S [109,117,108,116,105,112,97,114,116,47])),.flat (.int .i64 0)] [] []=some ([.flat (.bool false)],false,[],[]):=kev (by kernel_rfl)
theorem be_m:evW code lib 60 [.flat (.string (S multiT)),.flat (.string (S [109,117,108,116,105,112,97,114,116,47])),.flat (.int .i64 0)] [] []=some ([.flat (.bool true)],false,[],[]):=kev (by kernel_rfl)
theorem ma_b:evW code lib 68 [.flat (.string (S boundS))] [] []=some ([.flat (.bool true)],false,[],[]):=kev (by kernel_rfl)
def partF (kind:Str):List Fld:=[(ctN,valU kind),(cteN,qpN)]
def mailF (a b c:Str):List Fld:=[(fromS,a),(toS,b),(subjS,c),([77,73,77,69,45,86,101,114,115,105,111,110],[49,46,48]),(ctN,multiV)]
theorem gp_t (kind:Str):evW code lib 62 [.slc 2 (fcells (partF kind)),.flat (.string (S ctN))] [] []=some ([.flat (.string (S (valU kind))),.flat (.int .i64 1)],false,[],[]):=kev (by kernel_rfl)
theorem gp_c (kind:Str):evW code lib 62 [.slc 2 (fcells (partF kind)),.flat (.string (S cteN))] [] []=some ([.flat (.string (S qpN)),.flat (.int .i64 1)],false,[],[]):=kev (by kernel_rfl)
theorem gm_t (a b c:Str):evW code lib 62 [.slc 5 (fcells (mailF a b c)),.flat (.string (S ctN))] [] []=some ([.flat (.string (S multiV)),.flat (.int .i64 1)],false,[],[]):=kev (by kernel_rfl)
theorem gm_c (a b c:Str):evW code lib 62 [.slc 5 (fcells (mailF a b c)),.flat (.string (S cteN))] [] []=some ([.flat (.string (S [])),.flat (.int .i64 0)],false,[],[]):=kev (by kernel_rfl)
theorem fcells_np:∀ F:List Fld,noPtrs (fcells F)=true
 | []=>rfl
 | (a,b)::l=>by show noPtrs (.flat (.string (S a))::.flat (.string (S b))::fcells l)=true;simp only [noPtrs,PV.noPtr,fcells_np l,Bool.true_and]
theorem fcells_low {n:Nat}:∀ F:List Fld,lows n (fcells F)=true
 | []=>rfl
 | (a,b)::l=>by show lows n (.flat (.string (S a))::.flat (.string (S b))::fcells l)=true;simp only [lows,PV.low,fcells_low l,Bool.true_and]
def pcell (F:List Fld) (ty tx:Str) (n:Nat) (ps:List PV):List PV:=[.slc F.length (fcells F),.flat (.string (S ty)),.flat (.string (S tx)),.slc n ps]
theorem ne_cb:(([99,104,97,114,115,101,116]:Str)=[98,111,117,110,100,97,114,121])=False:=eq_false (by decide)
theorem read_part {kind:Str} (HS:LibSplit lib) (hk:kind=plainS∨kind=htmlS) (s t:Str) (at_ deep parts:Nat) (hs:s.length≤10000) (h1:splitL s=.ok (partF kind) at_) (hat:at_≤s.length)
 (hd:evW code lib 66 [.flat (.string (S (s.drop at_))),.flat (.string (S qpN))] [] []=some ([.flat (.string (S t)),.flat (.bool true)],false,[],[])) :
 evW code lib 37 [.flat (.string (S s)),.flat (.int .i64 (deep:Nat)),.flat (.int .i64 (parts:Nat))] [] []=some ([.agg (pcell (partF kind) (typeU kind) t 0 []),.flat (.int .i64 (parts:Nat)),.flat (.int .i64 0)],false,[],[]):=by
 have f1:=split_ev HS s _ _ hs h1
 have f2:=gp_t (lib:=lib) kind
 have f3:=gp_c (lib:=lib) kind
 have hl:(partF kind).length=2:=rfl
 unfold ctN at f2;unfold cteN qpN at f3;unfold qpN at hd
 rw [hl] at f1
 have hnp:=fcells_np (partF kind)
 have tk:(s.take s.length).drop at_=s.drop at_:=by rw [List.take_length]
 refine evW_eq code_n14_read (Nun.lb rfl) ?_
 simp only [pcell,hl]
 rcases hk with rfl | rfl
 ·have f4:=par_p (lib:=lib);have f5:=fo_p (lib:=lib);have f6:=ty_p (lib:=lib);have f7:=be_p (lib:=lib);have f8:=fo_c (lib:=lib);have f9:=fo_q (lib:=lib);unfold qpN at f9
  generalize typeU plainS=ty at *
  generalize valU plainS=va at *
  simp (maxSteps:=999999) (disch:=first | assumption | omega) only [go_sem,simprocAttr,au,f1,f2,f3,f4,f5,f6,f7,f8,f9,hd,hnp,fcells_low,tk,ne_cb,big_on,loop_on,kLoop_n,kLoop_e,on_n14_read_0]
 ·have f4:=par_h (lib:=lib);have f5:=fo_h (lib:=lib);have f6:=ty_h (lib:=lib);have f7:=be_h (lib:=lib);have f8:=fo_c (lib:=lib);have f9:=fo_q (lib:=lib);unfold qpN at f9
  generalize typeU htmlS=ty at *
  generalize valU htmlS=va at *
  simp (maxSteps:=999999) (disch:=first | assumption | omega) only [go_sem,simprocAttr,au,f1,f2,f3,f4,f5,f6,f7,f8,f9,hd,hnp,fcells_low,tk,ne_cb,big_on,loop_on,kLoop_n,kLoop_e,on_n14_read_0]
def pcell2 (F:List Fld) (ty:Str) (a b:List PV):List PV:=[.slc F.length (fcells F),.flat (.string (S ty)),.flat (.string (S [])),.slc 2 (a++b)]
theorem read_mail (HS:LibSplit lib) (s b1 b2 t1 t2 x1 x2 x3:Str) (at_:Nat) (hs:s.length≤10000) (h1:splitL s=.ok (mailF x1 x2 x3) at_) (hat:at_≤s.length)
 (hb:evW code lib 67 [.flat (.string (S (s.drop at_))),.flat (.string (S boundS))] [] []=some ([.slc 2 [.flat (.string (S b1)),.flat (.string (S b2))],.flat (.bool true)],false,[],[]))
 (p1:evW code lib 37 [.flat (.string (S b1)),.flat (.int .i64 1),.flat (.int .i64 2)] [] []=some ([.agg (pcell (partF plainS) (typeU plainS) t1 0 []),.flat (.int .i64 2),.flat (.int .i64 0)],false,[],[]))
 (p2:evW code lib 37 [.flat (.string (S b2)),.flat (.int .i64 1),.flat (.int .i64 2)] [] []=some ([.agg (pcell (partF htmlS) (typeU htmlS) t2 0 []),.flat (.int .i64 2),.flat (.int .i64 0)],false,[],[])) :
 evW code lib 37 [.flat (.string (S s)),.flat (.int .i64 0),.flat (.int .i64 0)] [] []=some ([.agg (pcell2 (mailF x1 x2 x3) multiT (pcell (partF plainS) (typeU plainS) t1 0 []) (pcell (partF htmlS) (typeU htmlS) t2 0 [])),.flat (.int .i64 2),.flat (.int .i64 0)],false,[],[]):=by
 have f1:=split_ev HS s _ _ hs h1
 have f2:=gm_t (lib:=lib) x1 x2 x3
 have f3:=gm_c (lib:=lib) x1 x2 x3
 have hl:(mailF x1 x2 x3).length=5:=rfl
 have hl2:(partF plainS).length=2:=rfl
 have hl3:(partF htmlS).length=2:=rfl
 unfold ctN at f2;unfold cteN at f3
 rw [hl] at f1
 have hnp:=fcells_np (mailF x1 x2 x3)
 have hnp2:=fcells_np (partF plainS)
 have hnp3:=fcells_np (partF htmlS)
 have hlo:=fun n=>fcells_low (n:=n) (mailF x1 x2 x3)
 have hlo2:=fun n=>fcells_low (n:=n) (partF plainS)
 have hlo3:=fun n=>fcells_low (n:=n) (partF htmlS)
 have hbv:bound=4294967296:=rfl
 have tk:(s.take s.length).drop at_=s.drop at_:=by rw [List.take_length]
 have f4:=par_m (lib:=lib);have f5:=fo_m (lib:=lib);have f6:=ty_m (lib:=lib);have f7:=be_m (lib:=lib);have f8:=fo_b (lib:=lib);have f9:=fo_0 (lib:=lib);have f10:=ma_b (lib:=lib)
 refine evW_eq code_n14_read (Nun.lb rfl) ?_
 simp only [pcell,pcell2,hl,hl2,hl3] at p1 p2 ⊢
 generalize typeU plainS=ty1 at *
 generalize typeU htmlS=ty2 at *
 generalize multiT=ty at *
 generalize multiV=va at *
 generalize boundS=bo at *
 generalize fcells (mailF x1 x2 x3)=fm at *
 generalize fcells (partF plainS)=fp at *
 generalize fcells (partF htmlS)=fh at *
 simp (maxSteps:=999999) (disch:=first | assumption | omega) only [go_sem,simprocAttr,au,f1,f2,f3,f4,f5,f6,f7,f8,f9,f10,hb,p1,p2,hnp,hnp2,hnp3,hlo,hlo2,hlo3,tk,big_on,loop_on,kLoop_n,kLoop_e,on_n14_read_0,on_n14_read_1]
end Nun
end
section
namespace Nun
open Go Go.RowKit Go.Proofs Go.Proofs.YtmpiobfdchlikaaGreatDoor
theorem crAt_line:∀ (x r:Str),(∀ c∈x,c≠13)→crAt (x++13::10::r)=some x.length
 | [],r,_=>by simp [crAt]
 | c::x,r,h=>by
   rw [List.cons_append,crAt,if_neg (fun hc=>h c (by simp) hc.1),crAt_line x r fun d hd=>h d (by simp [hd])];rfl
theorem itL_line (x r:Str) (a:Nat) (h:∀ c∈x,c≠13):itL (x++13::10::r) a=(x,a+x.length+2)::if x=[] then [] else itL r (a+x.length+2):=by
 rw [itL_some (crAt_line x r h)]
 have h1:(x++13::10::r).take x.length=x:=by simp
 have h2:(x++13::10::r).drop (x.length+2)=r:=by rw [List.drop_append];simp
 rw [h1,h2]
 by_cases hx:x=[]
 ·subst hx;rfl
 ·rw [if_neg (fun e=>hx (List.eq_nil_of_length_eq_zero e)),if_neg hx]
theorem run_lines:∀ (L:List Str) (r:Str) (a:Nat) (st st':List Fld × Bool),(∀ x∈L,x≠[]∧∀ c∈x,c≠13)→linesL L st=some st' →
 runHead (itL (linesU L++13::10::r) a) st=some (st'.1,st'.2,a+(linesU L).length+2)
 | [],r,a,st,st',_,h=>by
   simp [linesL] at h
   subst h
   have:=itL_line [] r a (by simp)
   simp only [List.nil_append] at this
   rw [show linesU []++13::10::r=13::10::r from rfl,this]
   rfl
 | x::L,r,a,st,st',hx,h=>by
   obtain ⟨hn,h13⟩:=hx x (by simp)
   rw [linesL,List.foldlM_cons] at h
   obtain ⟨s1,h1,h2⟩:=Option.bind_eq_some_iff.1 h
   have e:linesU (x::L)++13::10::r=x++13::10::(linesU L++13::10::r):=by
    rw [linesU,crlf,List.append_assoc,List.append_assoc];rfl
   rw [e,itL_line _ _ _ h13,if_neg hn,runHead,if_neg hn,h1]
   dsimp only
   rw [run_lines L r _ s1 st' (fun y hy=>hx y (by simp [hy])) h2]
   have:(linesU (x::L)).length=x.length+2+(linesU L).length:=by rw [linesU,crlf];simp only [List.length_append,List.length_cons,List.length_nil]
   rw [this]
   congr 3;omega
theorem split_lines (L:List Str) (r:Str) (F:List Fld) (h:∀ x∈L,x≠[]∧∀ c∈x,c≠13) (hl:linesL L ([],false)=some (F,false)) :
 splitL (linesU L++13::10::r)=.ok (F.map fun p=>(p.1,trimB p.2)) ((linesU L).length+2):=by
 unfold splitL
 rw [run_lines L r 0 _ _ h hl]
 simp
end Nun
end
section
namespace Nun
open Go Go.RowKit Go.Proofs Go.Proofs.YtmpiobfdchlikaaGreatDoor
theorem fcells_map:∀ F:List Fld,(fldCells F).map .flat=fcells F
 | []=>rfl
 | (a,b)::l=>by show PV.flat (.string (S a))::PV.flat (.string (S b))::(fldCells l).map .flat=_;rw [fcells_map l];rfl
theorem l36_split:LibSplit lib36:=fun s F b hs h=>by
 unfold lib36
 rw [or_r (bld_no (by decide) (by decide)),or_r (nest_no (by decide)),or_r (oneF_no (by decide)),or_r (oneF_no (by decide)),or_r (oneF_no (by decide)),or_r (oneF_no (by decide)),or_r (oneF_no (by decide)),or_r (oneF_no (by decide)),or_r (oneF_no (by decide)),or_r (oneF_no (by decide))]
 have e:sSplit [.string (S s)]=some ⟨fldCells F,F.length,2,41,[.int .i64 b,.int .i64 0]⟩:=by
  unfold sSplit;dsimp only
  rw [if_pos (by rw [S_size];exact hs),S_list,h]
 show ((flats [.flat (.string (S s))]).bind sSplit).map _=_
 rw [show flats [.flat (.string (S s))]=some [.string (S s)] from rfl,Option.bind_some,e,Option.map_some,fcells_map]
 rfl
def m0:Mail:=⟨[97,64,98],[99,64,100],[120],[104,105,10],[60,112,62,104,105,60,47,112,62]⟩
def b1:Str:=[67,111,110,116,101,110,116,45,84,121,112,101,58,32,116,101,120,116,47,112,108,97,105,110,59,32,99,104,97,114,115,101,116,61,117,116,102,45,56,13,10,67,111,110,116,101,110,116,45,84,114,97,110,115,102,101,114,45,69,110,99,111,100,105,110,103,58,32,113,117,111,116,101,100,45,112,114,105,110,116,97,98,108,101,13,10,13,10,104,105,13,10]
def b2:Str:=[67,111,110,116,101,110,116,45,84,121,112,101,58,32,116,101,120,116,47,104,116,109,108,59,32,99,104,97,114,115,101,116,61,117,116,102,45,56,13,10,67,111,110,116,101,110,116,45,84,114,97,110,115,102,101,114,45,69,110,99,111,100,105,110,103,58,32,113,117,111,116,101,100,45,112,114,105,110,116,97,98,108,101,13,10,13,10,60,112,62,104,105,60,47,112,62]
def d0:Str:=[45,45,61,95,110,117,110,99,105,111,13,10]++b1++[13,10,45,45,61,95,110,117,110,99,105,111,13,10]++b2++[13,10,45,45,61,95,110,117,110,99,105,111,45,45,13,10]
def h0:List Str:=[[70,114,111,109,58,32,97,64,98],[84,111,58,32,99,64,100],[83,117,98,106,101,99,116,58,32,120],mimeS,multiS]
def t0:Str:=linesU h0++13::10::d0
theorem chk0:checkU m0=0:=by decide +kernel
theorem res0:resB enc64 (encL 0) m0=t0:=by decide +kernel
theorem spl0:splitL t0=.ok (mailF [97,64,98] [99,64,100] [120]) ((linesU h0).length+2) :=
 split_lines h0 d0 [(fromS,[32,97,64,98]),(toS,[32,99,64,100]),(subjS,[32,120]),([77,73,77,69,45,86,101,114,115,105,111,110],[32,49,46,48]),(ctN,32::multiV)] (by decide +kernel) (by decide +kernel)
theorem spl1:splitL b1=.ok (partF plainS) 88 :=
 split_lines [ctS++plainS++csS,cteS] [104,105,13,10] [(ctN,32::valU plainS),(cteN,32::qpN)] (by decide +kernel) (by decide +kernel)
theorem spl2:splitL b2=.ok (partF htmlS) 87 :=
 split_lines [ctS++htmlS++csS,cteS] [60,112,62,104,105,60,47,112,62] [(ctN,32::valU htmlS),(cteN,32::qpN)] (by decide +kernel) (by decide +kernel)
variable {lib:Callee}
theorem bod0:evW code lib 67 [.flat (.string (S d0)),.flat (.string (S boundS))] [] []=some ([.slc 2 [.flat (.string (S b1)),.flat (.string (S b2))],.flat (.bool true)],false,[],[]):=by
 rw [bodies_ev d0 boundS (by decide +kernel) (by decide +kernel),show bodiesU d0 boundS=some ([b1,b2],true) by decide +kernel]
 rfl
theorem sai1:evW code lib 66 [.flat (.string (S (b1.drop 88))),.flat (.string (S qpN))] [] []=some ([.flat (.string (S [104,105,10])),.flat (.bool true)],false,[],[]):=kev (by kernel_rfl)
theorem sai2:evW code lib 66 [.flat (.string (S (b2.drop 87))),.flat (.string (S qpN))] [] []=some ([.flat (.string (S [60,112,62,104,105,60,47,112,62])),.flat (.bool true)],false,[],[]):=kev (by kernel_rfl)
theorem drop0:t0.drop ((linesU h0).length+2)=d0:=by decide +kernel
end Nun
end
section
namespace Nun
open Go Go.RowKit Go.Proofs Go.Proofs.YtmpiobfdchlikaaGreatDoor
variable {lib:Callee}
theorem parse_mail {s ty tx:Str} {fs ps:List PV} {k j n:Nat} (h1:noPtrs fs=true) (h2:noPtrs ps=true) (h3:∀ n,lows n fs=true) (h4:∀ n,lows n ps=true)
 (h:evW code lib 37 [.flat (.string (S s)),.flat (.int .i64 0),.flat (.int .i64 0)] [] []=some ([.agg [.slc k fs,.flat (.string (S ty)),.flat (.string (S tx)),.slc j ps],.flat (.int .i64 (n:Nat)),.flat (.int .i64 0)],false,[],[])) :
 evW code lib 16 [.flat (.string (S s))] [] []=some ([.agg [.slc k fs,.flat (.string (S ty)),.flat (.string (S tx)),.slc j ps],.flat (.int .i64 0)],false,[],[]):=by
 refine evW_eq code_n14_Parse (Nun.lb rfl) ?_
 simp (maxSteps:=999999) (disch:=first | assumption | omega) only [go_sem,simprocAttr,au,h,h1,h2,h3,h4]
theorem parse0:evW code lib36 16 [.flat (.string (S t0))] [] []=some ([.agg (pcell2 (mailF [97,64,98] [99,64,100] [120]) multiT (pcell (partF plainS) (typeU plainS) [104,105,10] 0 []) (pcell (partF htmlS) (typeU htmlS) [60,112,62,104,105,60,47,112,62] 0 [])),.flat (.int .i64 0)],false,[],[]):=by
 have h:=read_mail (lib:=lib36) l36_split t0 b1 b2 [104,105,10] [60,112,62,104,105,60,47,112,62] _ _ _ _ (by decide +kernel) spl0 (by decide +kernel) (by rw [drop0];exact bod0)
  (read_part l36_split (.inl rfl) b1 _ _ 1 2 (by decide +kernel) spl1 (by decide +kernel) sai1) (read_part l36_split (.inr rfl) b2 _ _ 1 2 (by decide +kernel) spl2 (by decide +kernel) sai2)
 refine parse_mail (n:=2) (fcells_np _) ?_ (fun n=>fcells_low _) (fun n=>?_) h
 ·simp only [pcell2,pcell,noPtrs,PV.noPtr,fcells_np,List.cons_append,List.nil_append,Bool.and_true]
 ·simp only [pcell2,pcell,lows,PV.low,noPtrs,PV.noPtr,fcells_np,fcells_low,List.cons_append,List.nil_append,Bool.and_true]
theorem awake36:evW code lib36 15 [] [] []=some ([.flat (.bool true)],false,[],[]):=by
 have e1:=build_ev l36_b64 l36_qp l36_idx l36_last l36_con l36_pre l36_bld l36_nest m0 ⟨by decide,by decide,by decide,by decide,by decide⟩
 rw [res0,chk0] at e1
 have e2:=parse0
 simp only [mcell,m0] at e1
 have hl1:(mailF [97,64,98] [99,64,100] [120]).length=5:=rfl
 have hl2:(partF plainS).length=2:=rfl
 have hl3:(partF htmlS).length=2:=rfl
 have hnp1:=fcells_np (mailF [97,64,98] [99,64,100] [120])
 have hnp2:=fcells_np (partF plainS)
 have hnp3:=fcells_np (partF htmlS)
 simp only [pcell,pcell2,hl1,hl2,hl3] at e2
 refine evW_eq code_nunciolaw36_awake (Nun.lb rfl) ?_
 generalize t0=t at *
 generalize typeU plainS=ty1 at *
 generalize typeU htmlS=ty2 at *
 generalize multiT=ty at *
 generalize fcells (mailF [97,64,98] [99,64,100] [120])=fm at *
 generalize fcells (partF plainS)=fp at *
 generalize fcells (partF htmlS)=fh at *
 simp (maxSteps:=999999) (disch:=first | assumption | omega) only [go_sem,simprocAttr,au,e1,e2,hnp1,hnp2,hnp3]
theorem law36_ev (m:Mail) (s:Str) (h1:m.fr.length≤9223372036854775807) (h2:m.to.length≤9223372036854775807) (h3:m.su.length≤9223372036854775807) (h4:m.te.length≤9223372036854775807) (h5:m.ht.length≤9223372036854775807) (h6:s.length≤9223372036854775807) :
 evW code lib36 3 [.agg (mcell m),.flat (.string (S s))] [] []=some ([.flat (.bool true)],false,[],[]):=law36_of awake36 m s h1 h2 h3 h4 h5 h6
end Nun
end
section
namespace Nun
open Go
variable {H:Type} {enc:TypeId × Value→H}
theorem returnsInHanded_of_change_and_shaped {a:Assume} {C:Checked} {os:Os} {f:FuncId} {fn:Func} {s:ChangeSpec} {conds:List PathCond} {apart fresh handsOn again:Bool} {X:World→Array Value→Prop}
 (hX:∀ (w w':World) (args:Array Value),w.heap=w'.heap→X w args→X w' args)
 (own:ownKnob C.prog.godebug=none) (started:os.Started) (noInit:C.prog.inits.idxOf? f=none) (hfn:C.prog.funcs[f]? =some fn)
 (witness:∃ (w:World) (tape:Tape) (i:Input),w.os=os∧(w.forCall tape i).Shaped C.prog∧i.vars=[]∧Input.okWide C.prog (w.forCall tape i) .any w.heap.size f i ∧
   ((s.pre enc C.prog fn conds apart (w.forCall tape i).memory i.args∧X (w.forCall tape i).memory i.args)∧sizedMet enc C.prog fn (OpenSpec.ofChange s) apart (w.forCall tape i).memory i.args)∧a.holds C.prog (lone (Frame.enter C.prog f i.args .normal) [] (w.forCall tape i)))
 (contract:∀ (W:World) (base:Nat) (args:Array Value) (ds gs:List (DataW H)) (before:List MemPlace),
   (∀ (j:Nat) t v,fn.params[j]? =some t→args[j]? =some v→Value.okWide C.prog W .any base t v) →
   DataW.Whole enc C.prog fn.params.toList s.vars apart W args.toList ds gs before →
   conds.all (PathCond.test C.prog ⟨fn.params.toList,ds,s.plain.varTypes C.prog,gs⟩)=true →
   (DataW.weightsEach C.prog (fn.params.toList++s.plain.varTypes C.prog) (ds++gs)).all (·≤reachBytes)=true→X W args →
   W.ShapedOpen C.prog →
   a.holds C.prog (lone (Frame.enter C.prog f args .normal) [] W) →
   Calls C.prog f args W fun e W'=>∃ v,e=.returned v∧s.post enc C.prog fn apart fresh handsOn again W args v W') :
 ReturnsInHanded a C os f .any (fun w args=>(s.pre enc C.prog fn conds apart w args∧X w args)∧sizedMet enc C.prog fn (OpenSpec.ofChange s) apart w args) (s.post enc C.prog fn apart fresh handsOn again):=by
 refine returnsInHanded_of_calls own started noInit witness ?_
 intro w tape i _ hsh _ hok hpre hholds
 obtain ⟨_,_,_,fn',hfn',_,_,_,_,hval⟩:=hok
 have e:fn'=fn:=Option.some.inj (hfn'.symm.trans hfn)
 subst e
 obtain ⟨⟨⟨ds,gs,before,hw,hc⟩,hx⟩,hz⟩:=hpre
 have hw':=DataW.Whole.of_heap (w':=w.forCall tape i) (by rfl) hw
 refine (contract (w.forCall tape i) w.heap.size i.args ds gs before hval hw' hc (hz.weights hw) (hX _ _ _ (by rfl) hx) hsh hholds).mono fun e W' ⟨v,he,hp⟩=>?_
 subst he
 exact ChangeSpec.post_blind hp
end Nun
end
section
namespace Nun
open Go
theorem cells_of_strs {H:Type} {enc:TypeId × Value→H} {P:Program} {w:World} {base:Nat} {sp:Nat→Bool} {held:Bool} {fuel:Nat} {t e:TypeId} {n:Nat} {cs:List Value} {zs:List (List UInt8)} {p:List MemPlace}
 (ht:P.underlying t=some (.array n e)) (he:P.underlying e=some .string) (hce:P.cellsOf e=1)
 (h:DataW.trod enc P w base sp held fuel t cs=some (.agg (zs.map fun z=>.lit (.string z)),p)) (i:Nat) (z:List UInt8) (hz:zs[i]? =some z):cs[i]? =some (.string ⟨z.toArray⟩):=by
 obtain ⟨xs,m,rfl,hx,hl,hn,hel⟩:=DataW.trod_array ht h
 simp only [Prod.mk.injEq,DataW.agg.injEq] at hx
 have hi:i<n:=by
  have h1:zs.length=xs.length:=by simpa using congrArg List.length hx.1
  have h2:=(List.getElem?_eq_some_iff.1 hz).1
  omega
 have hxi:=hel i hi
 rw [hce,Nat.mul_one] at hxi
 obtain ⟨y,hy⟩:∃ y,xs[i]? =some y:=⟨_,List.getElem?_eq_getElem (by omega)⟩
 rw [hy] at hxi
 obtain ⟨s,h1,rfl,_⟩:=DataW.trod_string he hxi
 have h2:(xs.map (·.1))[i]? =some (.lit (.string s.data.toList)):=by simp [hy]
 rw [← hx.1] at h2
 simp [hz] at h2
 have h3:=congrArg (·[0]?) h1
 simp [List.getElem?_take,List.getElem?_drop] at h3
 rw [h3,h2]
end Nun
namespace Go.Proofs.YtmpiobfdchlikaaGreatDoor
open Go.ChangeShapes Go.WideShapes Go.ChangeAt Go.RowKit Nun
theorem gTable:Tryz.prog.globalNamed "nuncio/b64.table"=some 1:=by kernel_rfl
theorem tTable:(Tryz.prog.globals[1]?).map (·.type)=some 235:=by kernel_rfl
theorem cString:Tryz.prog.cellsOf 9=1:=by kernel_rfl
theorem door_met (os:Os) (args:Array Value):laidMetH Tryz.prog [("nuncio/b64.table",Rows.laid_nuncio_b64_table)] ((World.doorLaid Tryz.prog 400 os).forCall (fun _ _=>0) ⟨#[],args,[]⟩).memory :=
 laidMetH_of_parts3 (fuel:=8) (laidMet_of_run' 8 (by kernel_rfl) (by kernel_rfl)) (by kernel_rfl) (by kernel_rfl)
theorem tab_of_laid {W:World} (h:laidMetH Tryz.prog [("nuncio/b64.table",Rows.laid_nuncio_b64_table)] W):Tab W:=by
 rw [MakeChecks.laidMetH_plain _ _ _ (by kernel_rfl)] at h
 obtain ⟨ps,⟨g0,t0,cs0,f0,p0,q0,hg0,ht0,hv0,hd0,_,_⟩,_,_⟩:=h
 obtain rfl:=Option.some.inj (gTable.symm.trans hg0)
 obtain rfl:=Option.some.inj (tTable.symm.trans ht0)
 intro i hi
 have hr:([tabRow 0,tabRow 1,tabRow 2,tabRow 3]:List (List UInt8))[i]? =some (tabRow i):=by
  match i,hi with
  | 0,_=>rfl
  | 1,_=>rfl
  | 2,_=>rfl
  | 3,_=>rfl
 have:=cells_of_strs (zs:=[tabRow 0,tabRow 1,tabRow 2,tabRow 3]) Tryz.underlying235 Tryz.underlying9 cString hd0 i _ hr
 have hc:=World.var?_cell hg0 hv0 i
 rw [hc];simpa using this
end Go.Proofs.YtmpiobfdchlikaaGreatDoor
end
section
set_option synthInstance.maxSize 4000
set_option maxRecDepth 100000
namespace Nun
open Go Go.RowKit Go.Proofs Go.Proofs.YtmpiobfdchlikaaGreatDoor
theorem fact36 {W:World} (hL:laidMetH Tryz.prog [("nuncio/b64.table",Rows.laid_nuncio_b64_table)] W) (h:W.ShapedOpen Tryz.prog):G36 W :=
 ⟨Go.Proofs.cell_of_shapedOpen_int (zero:=#[.int .i64 0]) (t:=3) h (of_decide_eq_true (by kernel_rfl)) (by kernel_rfl) rfl (by kernel_rfl) (by kernel_rfl) Tryz.underlying3,tab_of_laid hL⟩
theorem str_one {n:Nat} {ps:List PV} (h:fit Tryz.prog n 9 ps):∃ s:Str,ps=[.flat (.string (S s))]∧s.length≤9223372036854775807:=by
 cases n with
 | zero=>cases h
 | succ n =>
   simp only [fit,Tryz.underlying9] at h
   obtain ⟨s,rfl,hs⟩:=h
   refine ⟨s.data.toList,rfl,?_⟩
   have:s.data.toList.length=s.size:=rfl
   rw [this];unfold maxLen at hs;omega
theorem fit_mail {n:Nat} {ps:List PV} (h:fit Tryz.prog n 23 ps):∃ m:Mail,ps=mcell m∧m.fr.length≤9223372036854775807∧m.to.length≤9223372036854775807∧m.su.length≤9223372036854775807∧m.te.length≤9223372036854775807∧m.ht.length≤9223372036854775807:=by
 cases n with
 | zero=>cases h
 | succ n =>
   simp only [fit,Tryz.underlying23] at h
   obtain ⟨xss,rfl,hl,hx⟩:=h
   obtain ⟨a,b,c,d,e,rfl⟩:∃ a b c d e,xss=[a,b,c,d,e]:=by
    match xss,hl with
    | [a,b,c,d,e],_=>exact ⟨a,b,c,d,e,rfl⟩
   obtain ⟨s0,rfl,h0⟩:=str_one (hx 0 _ a rfl rfl)
   obtain ⟨s1,rfl,h1⟩:=str_one (hx 1 _ b rfl rfl)
   obtain ⟨s2,rfl,h2⟩:=str_one (hx 2 _ c rfl rfl)
   obtain ⟨s3,rfl,h3⟩:=str_one (hx 3 _ d rfl rfl)
   obtain ⟨s4,rfl,h4⟩:=str_one (hx 4 _ e rfl rfl)
   exact ⟨⟨s0,s1,s2,s3,s4⟩,rfl,h0,h1,h2,h3,h4⟩
theorem fitA_str {n:Nat} {p:PV} (h:fitA Tryz.prog n 9 p):∃ s:Str,p=.flat (.string (S s))∧s.length≤9223372036854775807:=by
 simp only [fitA,Tryz.underlying9] at h
 obtain ⟨s,h1,h2⟩:=str_one h
 exact ⟨s,by simpa using h1,h2⟩
theorem fitA_mail {n:Nat} {p:PV} (h:fitA Tryz.prog n 23 p):∃ m:Mail,p=.agg (mcell m)∧m.fr.length≤9223372036854775807∧m.to.length≤9223372036854775807∧m.su.length≤9223372036854775807∧m.te.length≤9223372036854775807∧m.ht.length≤9223372036854775807:=by
 simp only [fitA,Tryz.underlying23] at h
 obtain ⟨ps,rfl,h⟩:=h
 obtain ⟨m,rfl,hm⟩:=fit_mail h
 exact ⟨m,rfl,hm⟩
theorem ok36:CallOk Tryz.prog Γ36 (evW code lib36):=evW_ok Tryz.checked.mixed (by kernel_rfl) code_ok lib36_ok
theorem walk_emailBuilds (W:World) (hm:G36 W) (pvs:List PV) (vs:List Value) (hr:Rds W (Fr0 W) [] pvs vs) (hf:fits Tryz.prog Tryz.f3.params.toList pvs):Calls Tryz.prog 3 vs.toArray W (Ret (.bool true) W):=by
 rw [Tryz.params3] at hf
 match pvs,hf with
 | [p,q],⟨⟨n,h1⟩,⟨k,h2⟩,_⟩ =>
   obtain ⟨m,rfl,a1,a2,a3,a4,a5⟩:=fitA_mail h1
   obtain ⟨s,rfl,a6⟩:=fitA_str h2
   exact calls_of ok36 (by decide) (law36_ev m s a1 a2 a3 a4 a5 a6) hm hr
end Nun
namespace Go.Proofs.YtmpiobfdchlikaaGreatDoor
open Go.RowKit Nun
open Go.ChangeShapes Go.WideShapes Go.ChangeAt
namespace emailBuildsDone
theorem own:ownKnob Tryz.prog.godebug=none:=by kernel_rfl
theorem kids:Kids Tryz.prog (·<Tryz.prog.types.size):=kids_rows (by kernel_rfl) (by kernel_rfl)
theorem full:∀ t e,t<Tryz.prog.types.size→Tryz.prog.underlying t=some (.slice e)→0<Tryz.prog.cellsOf e:=slices_full_of Tryz.prog (by kernel_rfl)
theorem typed:∀ t∈Tryz.f3.params.toList,t<Tryz.prog.types.size:=fun t ht=>by
 rw [Tryz.params3] at ht
 have hall:([23,9].all fun u=>decide (u<Tryz.prog.types.size))=true:=by kernel_rfl
 exact of_decide_eq_true (List.all_eq_true.1 hall t ht)
set_option maxRecDepth 100000 in
theorem lifted (os:Os) (started:os.Started) (H:Type) (enc:TypeId × Value→H) :
 ReturnsInHanded {} Tryz.checked os 3 .any (fun w args=>(Rows.emailBuildsSpec.pre enc Tryz.prog Tryz.f3 [] false w args∧laidMetH Tryz.prog [("nuncio/b64.table",Rows.laid_nuncio_b64_table)] w)∧sizedMet enc Tryz.prog Tryz.f3 (OpenSpec.ofChange Rows.emailBuildsSpec) false w args)
  (Rows.emailBuildsSpec.post enc Tryz.prog Tryz.f3 false true false false):=by
 refine returnsInHanded_of_change_and_shaped (C:=Tryz.checked) (X:=fun w _=>laidMetH Tryz.prog [("nuncio/b64.table",Rows.laid_nuncio_b64_table)] w) (fun _ _ _ hh h=>h.of_heap hh) own started (by kernel_rfl) Tryz.func3
  (ChangeSpec.witness_shaped (enc:=enc) (C:=Tryz.checked) (os:=os) (X:=fun w _=>laidMetH Tryz.prog [("nuncio/b64.table",Rows.laid_nuncio_b64_table)] w) false (World.doorLaid Tryz.prog 400 os) #[.agg #[.string ⟨#[]⟩,.string ⟨#[]⟩,.string ⟨#[]⟩,.string ⟨#[]⟩,.string ⟨#[]⟩],.string ⟨#[]⟩] 8 rfl (World.shaped_of_RefB (by kernel_rfl) (by kernel_rfl)) (by kernel_rfl) (by kernel_rfl) (by kernel_rfl) (door_met os _)) ?_
 intro W base args ds gs before hval0 hW _ _ hL hsh _
 have hW':=hW
 obtain ⟨p,q,hA,_⟩:=hW
 obtain ⟨pvs,k1,k2⟩:=args_open kids full typed (fun j t v h1 h2=>hval0 j t v (by simpa using h1) (by simpa using h2)) hA
 have hlen:=trodAll_len hA
 have hc:=walk_emailBuilds W (fact36 hL hsh) pvs args.toList k1 k2
 rw [Array.toArray_toList] at hc
 refine hc.mono fun e W' ⟨he,bel⟩=>?_
 subst he
 refine ⟨_,rfl,post_law (tb:=4) kids full hW' rfl ?_ rfl Tryz.underlying4 typed bel⟩
 rw [Tryz.params3] at hlen
 match ds,hlen with
 | [d0,d1],_=>rfl
theorem over:Rows.emailBuildsRow.holds Tryz.pinned (OpenSpec.ofChange Rows.emailBuildsSpec) :=
 OpenClaim.holds_of_wide 3 Tryz.f3 rfl rfl rfl rfl rfl rfl rfl ⟨rfl,rfl,rfl,rfl,rfl⟩ rfl rfl rfl rfl rfl (by kernel_rfl) Tryz.func3 (by kernel_rfl)
  (of_decide_eq_true (by kernel_rfl)) (by unfold Func.isWrapper;first | (rw [if_pos (by decide +kernel)];kernel_rfl) | (rw [if_neg (by decide +kernel)];exact ⟨rfl,rfl⟩))
  (fun os started H enc _=>lifted os started H enc)
theorem proved:Rows.EmailBuildsCardSaid :=
 Claim7.holds_tied_plain_at .later [] [.data] true (true,"e420b8c8c04be5be850ab7770be3e24bcc9ecd9650fc6a74deb89aa4cf9c60c4") true
  over (fun _ h=>by cases h) (by kernel_rfl) (fun _ h=>by cases h) emailBuilds_row_tie rfl ⟨rfl,rfl⟩ (by kernel_rfl) rfl
  (fun f fn hf hfn=>by
    obtain rfl:f=3:=Option.some.inj ((show Tryz.prog.funcNamed "nuncio/nunciolaw36.EmailBuilds"=some 3 by kernel_rfl).symm.trans hf) |>.symm
    obtain rfl:fn=Tryz.f3:=(Option.some.inj (Tryz.func3.symm.trans hfn)).symm
    exact ⟨by kernel_rfl,fun j t ht=>by
     rw [Tryz.params3] at ht
     have hm:t∈[23,9]:=by simpa using Array.mem_of_getElem? ht
     have hall:([23,9].all fun u=>!Tryz.prog.wantsStandIn u)=true:=by kernel_rfl
     exact (show Tryz.prog.wantsStandIn t=false by simpa using List.all_eq_true.1 hall t hm)⟩)
  (by kernel_rfl)
end emailBuildsDone
end Go.Proofs.YtmpiobfdchlikaaGreatDoor
end

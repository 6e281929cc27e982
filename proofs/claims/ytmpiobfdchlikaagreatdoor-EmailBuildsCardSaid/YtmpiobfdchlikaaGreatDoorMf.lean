/- EmailBuilds answers true for every mail and every text, where the table of base64 is laid az start-up lays it: texts of this proof, merged. -/
import Derived.Test.YtmpiobfdchlikaaGreatDoorMe
set_option linter.unusedVariables false
set_option linter.unusedSimpArgs false
section
namespace Nun
open Go Go.RowKit Go.Proofs Go.Proofs.YtmpiobfdchlikaaGreatDoor
variable {lib:Callee}
def goP (s:Str) (k long:Nat):Str→Option Nat
 | []=>some long
 | c::t=>if stopP s k c long || decide (60<nextP c long) then none else goP s (k+1) (nextP c long) t
def plainU (s:Str):Bool:=decide (s=[]) || (match goP s 0 0 s with | none=>false | some n=>decide (0<n))
theorem plain_ev (H:LibPre lib) (s:Str) (hs:s.length≤1000000000):evW code lib 148 [.flat (.string (S s))] [] []=some ([.flat (.bool (plainU s))],false,[],[]):=by
 refine evW_eq code_fold_Plain (Nat.le_of_ble_eq_true rfl) ?_
 have he:(⟨#[]⟩:ByteArray)=S []:=rfl
 by_cases h0:s=[]
 ·subst h0
  simp only [go_sem,simprocAttr,he,S_eqB,plainU,decide_true,Bool.true_or]
 have hloop:=loop_by (body:=evC (evW code lib) big b_fold_Plain_0) (live:=[0,3,9,10]) (nb:=0) (headP s) (fun q=>q.1≤s.length∧q.2≤60) (fun q=>s.length - q.1)
  (fun q=>match goP s q.1 q.2 (s.drop q.1) with | some n=>(.exit 0,⟨[(3,.flat (.int .i64 (n:Nat)))],[],[],[]⟩) | none=>(.ret,⟨[(2,.flat (.bool false))],[],[],[]⟩)) (fun q hq=>?_) (n:=big) (a:=(0,0)) ⟨Nat.zero_le _,Nat.zero_le _⟩ (by unfold big;simp;omega)
 ·simp only [headP,List.drop_zero,n0] at hloop
  have h0':(s=[])=False:=eq_false h0
  simp only [plainU,h0',decide_false,Bool.false_or]
  cases hg:goP s 0 0 s with
  | none =>
    simp only [hg] at hloop
    simp only [go_sem,simprocAttr,S_size,hloop,he,S_eqB,h0']
  | some n =>
    simp only [hg] at hloop
    have d:((0:Int)<(n:Nat))=(0<n):=by apply propext;omega
    simp only [go_sem,simprocAttr,S_size,hloop,he,S_eqB,h0',d]
 ·obtain ⟨k,long⟩:=q
  obtain ⟨hk,hl⟩:=hq
  simp only at hk hl
  by_cases hlt:k<s.length
  ·have hc:s[k]? =some s[k]:=List.getElem?_eq_getElem hlt
   have hd:s.drop k=s[k]::s.drop (k+1):=List.drop_eq_getElem_cons hlt
   have hr:=plain_round H s k long s[k] hlt hs hl hc
   cases hb:stopP s k s[k] long || decide (60<nextP s[k] long) with
   | false =>
     right
     rw [hb] at hr
     have hn:nextP s[k] long≤60:=by simp only [Bool.or_eq_false_iff,decide_eq_false_iff_not] at hb;omega
     exact ⟨headP s (k+1,nextP s[k] long),(k+1,nextP s[k] long),hr,by simp only [headP,go_sem,simprocAttr],⟨hlt,hn⟩,by simp only;omega,by simp only [hd,goP,hb,Bool.false_eq_true,if_false]⟩
   | true =>
     left
     rw [hb] at hr
     exact ⟨.ret,_,hr,by simp,by simp only [hd,goP,hb,if_true]⟩
  ·left
   obtain rfl:k=s.length:=by omega
   have c1:¬ (s.length:Int)<s.length:=by omega
   refine ⟨.exit 0,⟨[(3,.flat (.int .i64 (long:Nat)))],[],[],[]⟩,?_,by simp,by simp only [List.drop_length,goP]⟩
   simp only [on_fold_Plain_0,headP,go_sem,simprocAttr,c1]
end Nun
end
section
namespace Nun
open Go Go.RowKit Go.Proofs Go.Proofs.YtmpiobfdchlikaaGreatDoor
variable {lib:Callee}
def LibB64 (lib:Callee) (enc:Str→Str):Prop:=∀ s:Str,s.length≤100→(enc s).length≤136∧lib 150 [.flat (.string (S s))] [] []=some ([.flat (.string (S (enc s)))],false,[],[])
theorem b64_ev {enc:Str→Str} (H:LibB64 lib enc) (s:Str) (h:s.length≤100):evW code lib 150 [.flat (.string (S s))] [] []=some ([.flat (.string (S (enc s)))],false,[],[]) :=
 evW_lib (by decide) (by kernel_rfl) (H s h).2
def frontU:Str:=[61,63,85,84,70,45,56,63,66,63]
def codedU (enc:Str→Str) (g:Str):Str:=frontU++enc g++[63,61]
def groupsU (enc:Str→Str):Str→List Nat→List Str
 | now,[]=>[codedU enc now]
 | now,r::l=>if 45<now.length+(bytesU r).length then codedU enc now::groupsU enc (bytesU r) l else groupsU enc (now++bytesU r) l
def wordsU (enc:Str→Str) (s:Str):List Str:=if s=[] then [] else if plainU s then cutU 32 s else groupsU enc [] (numsU s)
theorem codedU_len {enc:Str→Str} (H:LibB64 lib enc) {g:Str} (h:g.length≤100):(codedU enc g).length≤200:=by
 have:=(H g h).1
 simp only [codedU,frontU,List.length_append,List.length_cons,List.length_nil];omega
theorem groupsU_len (enc:Str→Str):∀ (l:List Nat) (now:Str),(groupsU enc now l).length≤l.length+1
 | [],now=>by simp [groupsU]
 | r::l,now=>by
   simp only [groupsU]
   split
   ·have:=groupsU_len enc l (bytesU r);simp only [List.length_cons];omega
   ·have:=groupsU_len enc l (now++bytesU r);simp only [List.length_cons];omega
theorem cutU_len (c:UInt8):∀ s:Str,(cutU c s).length≤s.length+1
 | []=>by simp [cutU]
 | x::l=>by
   have:=cutU_len c l
   simp only [cutU]
   split
   ·simp only [List.length_cons];omega
   ·split
    ·rename_i h;rw [h] at this;simp only [List.length_cons] at this ⊢;omega
    ·simp only [List.length_cons,List.length_nil];omega
theorem cutU_mem (c:UInt8):∀ (s x:Str),x∈cutU c s→x.length≤s.length
 | [],x,h=>by simp [cutU] at h;simp [h]
 | y::l,x,h=>by
   have:=cutU_mem c l
   simp only [cutU] at h
   split at h
   ·rcases List.mem_cons.1 h with rfl | h
    ·simp
    ·have:=this x h;simp only [List.length_cons];omega
   ·split at h
    ·rename_i p ps hp
     rcases List.mem_cons.1 h with rfl | h
     ·have:=this p (by rw [hp];exact List.mem_cons_self);simp only [List.length_cons];omega
     ·have:=this x (by rw [hp];exact List.mem_cons_of_mem _ h);simp only [List.length_cons];omega
    ·simp at h;simp [h]
theorem runesU_len:∀ (n:Nat) (s:Str),s.length≤n→(runesU s).length≤s.length
 | _,[],_=>by simp [runesU_nil]
 | 0,_::_,h=>by simp at h
 | n+1,c::l,h=>by
   have h1:=decU_size c l
   have h2:((c::l).drop (decU (c::l)).2).length≤l.length:=by rw [List.length_drop];simp only [List.length_cons];omega
   have:=runesU_len n ((c::l).drop (decU (c::l)).2) (by simp only [List.length_cons] at h;omega)
   rw [runesU_cons]
   simp only [List.length_cons]
   omega
theorem runesU_lt:∀ (n:Nat) (s:Str),s.length≤n→∀ q∈runesU s,q.1<8388608
 | _,[],_,q,hq=>by simp [runesU_nil] at hq
 | 0,_::_,h,q,hq=>by simp at h
 | n+1,c::l,h,q,hq=>by
   have h1:=decU_size c l
   rw [runesU_cons] at hq
   rcases List.mem_cons.1 hq with rfl | hq
   ·exact decU_num _
   ·exact runesU_lt n _ (by rw [List.length_drop];simp only [List.length_cons] at h ⊢;omega) q hq
theorem scells_np:∀ a:List Str,noPtrs (scells a)=true
 | []=>rfl
 | c::a=>by show noPtrs (.flat (.string (S c))::scells a)=true;simp only [noPtrs,PV.noPtr,scells_np a,Bool.true_and]
theorem rcells_np:∀ a:List Nat,noPtrs (rcells a)=true
 | []=>rfl
 | c::a=>by show noPtrs (.flat (.int .i32 (c:Nat))::rcells a)=true;simp only [noPtrs,PV.noPtr,rcells_np a,Bool.true_and]
theorem numsU_len (s:Str):(numsU s).length≤s.length:=by
 unfold numsU;rw [List.length_map];exact runesU_len _ s (Nat.le_refl _)
theorem numsU_lt (s:Str) (x:Nat) (h:x∈numsU s):x<8388608:=by
 unfold numsU at h
 obtain ⟨q,hq,rfl⟩:=List.mem_map.1 h
 exact runesU_lt _ s (Nat.le_refl _) q hq
section
variable {α:Type} (BX:α→Boxes) (oc:α→List (Nat × Nat)) (step:α→Str→α) (I:α→Nat→Prop) (b p nb:Nat)
theorem words_r0 (hlen:∀ a,(BX a).length=nb) (hoc:∀ a,∀ q∈oc a,q.1<nb) (N:Nat)
 (hI:∀ a k x,I a k→k<N→x.length≤10000→I (step a x) (k+1))
 (hy:∀ a k x,I a k→k<N→x.length≤10000→evW code lib yldF [.yld b,.flat (.string (S x))] (BX a) (cl (oc a))=some ([.flat (.bool true)],false,BX (step a x),cl (oc (step a x))))
 (L:List Str) (hL:L.length≤N) (hL2:L.length≤1000000) (hx:∀ x∈L,x.length≤10000) (a:α) (ha:I a 0) (hN:L.length<big) :
 evLoop (evC (evW code lib) big b_fold_words_1_0) [0,14,15,16] nb big ⟨[(0,.yld b),(14,.slc L.length (scells L)),(15,.flat (.int .i64 (L.length:Nat))),(16,.flat (.int .i64 0))],cl (oc a),[],BX a⟩ =
  some (.exit 0,⟨[],cl (oc (L.foldl step a)),[],BX (L.foldl step a)⟩):=by
 have hloop:=loop_by (body:=evC (evW code lib) big b_fold_words_1_0) (live:=[0,14,15,16]) (nb:=nb) (fun q:α × Nat=>(⟨[(0,.yld b),(14,.slc L.length (scells L)),(15,.flat (.int .i64 (L.length:Nat))),(16,.flat (.int .i64 (q.2:Nat)))],cl (oc q.1),[],BX q.1⟩:St)) (fun q=>I q.1 q.2∧q.2≤L.length) (fun q=>L.length - q.2)
  (fun q=>(.exit 0,⟨[],cl (oc ((L.drop q.2).foldl step q.1)),[],BX ((L.drop q.2).foldl step q.1)⟩)) (fun ⟨a,k⟩ ha=>?_) (n:=big) (a:=(a,0)) ⟨ha,Nat.zero_le _⟩ (by dsimp only;omega)
 ·exact hloop
 ·dsimp only at ha ⊢
  obtain ⟨ha,hk⟩:=ha
  have h1:=hlen a
  by_cases hlt:k<L.length
  ·right
   have hc:L[k]? =some L[k]:=List.getElem?_eq_getElem hlt
   have hd:L.drop k=L[k]::L.drop (k+1):=List.drop_eq_getElem_cons hlt
   have hxl:=hx _ (List.getElem_mem hlt)
   have c1:(k:Int)<L.length:=by omega
   have c2:(0:Int)≤(k:Nat):=by omega
   have w1:IntKind.i64.wrap ((k:Int)+1)=((k+1:Nat):Int):=wrap64 (by omega)
   have hsc:(scells L).drop k=.flat (.string (S L[k]))::(scells L).drop (k+1):=by simp only [scells,← List.map_drop,hd,List.map_cons]
   have hle:1≤((scells L).drop (k+1)).length+1:=by omega
   have hyy:=hy a k L[k] ha (by omega) hxl
   have h2:=hlen (step a L[k])
   refine ⟨⟨[(0,.yld b),(14,.slc L.length (scells L)),(15,.flat (.int .i64 (L.length:Nat))),(16,.flat (.int .i64 ((k+1:Nat):Int)))],cl (oc (step a L[k])),[],BX (step a L[k])⟩,(step a L[k],k+1),?_,?_,⟨hI a k _ ha (by omega) hxl,hlt⟩,by dsimp only;omega,by dsimp only;rw [hd,List.foldl_cons]⟩
   ·simp only [on_fold_words_1_0,go_sem,simprocAttr,cl_keep,cl_owns,cl_cells,cl_drop,cl_slots,scells_len,c1,c2,w1,hsc,hle,List.length_cons,hyy,Int.toNat_natCast,trim_same h1,h1,h2,dropCs_nil]
   ·simp only [go_sem,simprocAttr,cl_keep,cl_owns,trim_same h2,h2,cl_under _ (hoc _)]
  ·left
   obtain rfl:k=L.length:=by omega
   have c1:¬ (L.length:Int)<L.length:=by omega
   refine ⟨.exit 0,⟨[],cl (oc a),[],BX a⟩,?_,by simp,by simp only [List.drop_length,List.foldl_nil]⟩
   simp only [on_fold_words_1_0,go_sem,simprocAttr,cl_keep,cl_owns,cl_cells,cl_drop,cl_slots,c1,trim_same h1,h1,dropCs_nil]
def grpS (enc:Str→Str):α→Str→List Nat→α × Str
 | a,now,[]=>(a,now)
 | a,now,r::l=>if 45<now.length+(bytesU r).length then grpS enc (step a (codedU enc now)) (bytesU r) l else grpS enc a (now++bytesU r) l
theorem grpS_eq (enc:Str→Str):∀ (l:List Nat) (a:α) (now:Str),(groupsU enc now l).foldl step a=step (grpS step enc a now l).1 (codedU enc (grpS step enc a now l).2)
 | [],a,now=>rfl
 | r::l,a,now=>by
   simp only [groupsU,grpS]
   split
   ·rw [List.foldl_cons];exact grpS_eq enc l _ _
   ·exact grpS_eq enc l _ _
theorem words_r1 {enc:Str→Str} (HE:LibB64 lib enc) (hlen:∀ a,(BX a).length=nb) (hoc:∀ a,∀ q∈oc a,q.1<nb) (N:Nat)
 (hI:∀ a k x,I a k→k<N→x.length≤10000→I (step a x) (k+1))
 (hy:∀ a k x,I a k→k<N→x.length≤10000→evW code lib yldF [.yld b,.flat (.string (S x))] (BX a) (cl (oc a))=some ([.flat (.bool true)],false,BX (step a x),cl (oc (step a x))))
 (L:List Nat) (hL:L.length≤N) (hL2:L.length≤1000000) (hx:∀ x∈L,x<2147483648) (a:α) (ha:I a 0) (hN:L.length<big) :
 evLoop (evC (evW code lib) big b_fold_words_1_1) [0,5,26,27,28] nb big ⟨[(0,.yld b),(5,.flat (.string (S []))),(26,.slc L.length (rcells L)),(27,.flat (.int .i64 (L.length:Nat))),(28,.flat (.int .i64 0))],cl (oc a),[],BX a⟩ =
  some (.exit 2,⟨[(0,.yld b),(5,.flat (.string (S (grpS step enc a [] L).2)))],cl (oc (grpS step enc a [] L).1),[],BX (grpS step enc a [] L).1⟩)∧(∃ j,j≤L.length∧I (grpS step enc a [] L).1 j)∧(grpS step enc a [] L).2.length≤45:=by
 have hloop:=loop_by (body:=evC (evW code lib) big b_fold_words_1_1) (live:=[0,5,26,27,28]) (nb:=nb) (fun q:(α × Str) × Nat=>(⟨[(0,.yld b),(5,.flat (.string (S q.1.2))),(26,.slc L.length (rcells L)),(27,.flat (.int .i64 (L.length:Nat))),(28,.flat (.int .i64 (q.2:Nat)))],cl (oc q.1.1),[],BX q.1.1⟩:St)) (fun q=>(∃ j,j≤q.2∧I q.1.1 j)∧q.1.2.length≤45∧q.2≤L.length) (fun q=>L.length - q.2)
  (fun q=>(.exit 2,⟨[(0,.yld b),(5,.flat (.string (S (grpS step enc q.1.1 q.1.2 (L.drop q.2)).2)))],cl (oc (grpS step enc q.1.1 q.1.2 (L.drop q.2)).1),[],BX (grpS step enc q.1.1 q.1.2 (L.drop q.2)).1⟩)) (fun ⟨⟨a,now⟩,k⟩ ha=>?_) (n:=big) (a:=((a,[]),0)) ⟨⟨0,Nat.le_refl _,ha⟩,by simp,Nat.zero_le _⟩ (by dsimp only;omega)
 ·refine ⟨hloop,?_⟩
  have hgen:∀ (l:List Nat) (a:α) (now:Str) (k:Nat),k+l.length=L.length→(∃ j,j≤k∧I a j)→now.length≤45→(∃ j,j≤L.length∧I (grpS step enc a now l).1 j)∧(grpS step enc a now l).2.length≤45:=by
   intro l
   induction l with
   | nil=>exact fun a now k hk ⟨j,h1,h2⟩ hn=>⟨⟨j,by simp only [List.length_nil] at hk;omega,h2⟩,hn⟩
   | cons r l ih =>
     intro a now k hk ⟨j,h1,h2⟩ hn
     have h4:=bytesU_len r
     simp only [List.length_cons] at hk
     simp only [grpS]
     split
     ·exact ih _ _ (k+1) (by omega) ⟨j+1,by omega,hI a j _ h2 (by omega) (Nat.le_trans (codedU_len HE (by omega)) (by decide))⟩ (by omega)
     ·exact ih _ _ (k+1) (by omega) ⟨j,by omega,h2⟩ (by rw [List.length_append];omega)
  exact hgen L a [] 0 (by omega) ⟨0,Nat.le_refl _,ha⟩ (by simp)
 ·dsimp only at ha ⊢
  obtain ⟨⟨j,hj,ha⟩,hn45,hk⟩:=ha
  have h1:=hlen a
  by_cases hlt:k<L.length
  ·right
   have hc:L[k]? =some L[k]:=List.getElem?_eq_getElem hlt
   have hd:L.drop k=L[k]::L.drop (k+1):=List.drop_eq_getElem_cons hlt
   have hxl:=hx _ (List.getElem_mem hlt)
   obtain ⟨r,hr⟩:∃ r,L[k]=r:=⟨_,rfl⟩
   rw [hr] at hd hxl
   have c1:(k:Int)<L.length:=by omega
   have c2:(0:Int)≤(k:Nat):=by omega
   have w1:IntKind.i64.wrap ((k:Int)+1)=((k+1:Nat):Int):=wrap64 (by omega)
   have w2:IntKind.i64.wrap (45 - (now.length:Int))=45 - (now.length:Int):=wrap64 (by omega)
   have hsc:(rcells L).drop k=.flat (.int .i32 (r:Nat))::(rcells L).drop (k+1):=by simp only [rcells,← List.map_drop,hd,List.map_cons]
   have hle:1≤((rcells L).drop (k+1)).length+1:=by omega
   have hb:=bytes_ev (lib:=lib) r hxl
   have hb4:=bytesU_len r
   have hf:(⟨#[61,63,85,84,70,45,56,63,66,63]⟩:ByteArray)=S frontU:=rfl
   have hbk:(⟨#[63,61]⟩:ByteArray)=S [63,61]:=rfl
   have he0:(⟨#[]⟩:ByteArray)=S []:=rfl
   by_cases hg:45<now.length+(bytesU r).length
   ·have hg':45 - (now.length:Int)<((bytesU r).length:Int):=by omega
    have hcl:=codedU_len HE (g:=now) (by omega)
    have hyy:=hy a j (codedU enc now) ha (by omega) (by omega)
    have h2:=hlen (step a (codedU enc now))
    have he:=b64_ev HE now (by omega)
    have hap:frontU++enc now++[63,61]=codedU enc now:=rfl
    have hel:=(HE now (by omega)).1
    have q1:frontU.length+(enc now).length≤bound:=by unfold bound;simp only [frontU,List.length_cons,List.length_nil];omega
    have q3:(bytesU r).length≤bound:=by unfold bound;omega
    have q2:(frontU++enc now).length+2≤bound:=by unfold bound;simp only [frontU,List.length_append,List.length_cons,List.length_nil];omega
    refine ⟨⟨[(0,.yld b),(5,.flat (.string (S (bytesU r)))),(26,.slc L.length (rcells L)),(27,.flat (.int .i64 (L.length:Nat))),(28,.flat (.int .i64 ((k+1:Nat):Int)))],cl (oc (step a (codedU enc now))),[],BX (step a (codedU enc now))⟩,((step a (codedU enc now),bytesU r),k+1),?_,?_,⟨⟨j+1,by dsimp only;omega,hI a j _ ha (by omega) (by omega)⟩,by dsimp only;omega,hlt⟩,by dsimp only;omega,by dsimp only;rw [hd];simp only [grpS,hg,if_true]⟩
    ·simp only [on_fold_words_1_1,go_sem,simprocAttr,cl_keep,cl_owns,cl_cells,cl_drop,cl_slots,rcells_len,c1,c2,w1,w2,hsc,hle,List.length_cons,hb,hg',S_size,S_app,hf,hbk,he0,he,hap,q1,q2,q3,hyy,Int.toNat_natCast,trim_same h1,h1,h2,dropCs_nil,List.nil_append]
    ·simp only [go_sem,simprocAttr,cl_keep,cl_owns,trim_same h2,h2,cl_under _ (hoc _)]
   ·have hg':¬ 45 - (now.length:Int)<((bytesU r).length:Int):=by omega
    have q1:now.length+(bytesU r).length≤bound:=by unfold bound;omega
    refine ⟨⟨[(0,.yld b),(5,.flat (.string (S (now++bytesU r)))),(26,.slc L.length (rcells L)),(27,.flat (.int .i64 (L.length:Nat))),(28,.flat (.int .i64 ((k+1:Nat):Int)))],cl (oc a),[],BX a⟩,((a,now++bytesU r),k+1),?_,?_,⟨⟨j,by dsimp only;omega,ha⟩,by dsimp only;rw [List.length_append];omega,hlt⟩,by dsimp only;omega,by dsimp only;rw [hd];simp only [grpS,hg,if_false]⟩
    ·simp only [on_fold_words_1_1,go_sem,simprocAttr,cl_keep,cl_owns,cl_cells,cl_drop,cl_slots,rcells_len,c1,c2,w1,w2,hsc,hle,List.length_cons,hb,hg',q1,S_size,S_app,Int.toNat_natCast,trim_same h1,h1,dropCs_nil]
    ·simp only [go_sem,simprocAttr,cl_keep,cl_owns,trim_same h1,h1,cl_under _ (hoc _)]
  ·left
   obtain rfl:k=L.length:=by omega
   have c1:¬ (L.length:Int)<L.length:=by omega
   refine ⟨.exit 2,⟨[(0,.yld b),(5,.flat (.string (S now)))],cl (oc a),[],BX a⟩,?_,by simp,by simp only [List.drop_length,grpS]⟩
   simp only [on_fold_words_1_1,go_sem,simprocAttr,cl_keep,cl_owns,cl_cells,cl_drop,cl_slots,c1,trim_same h1,h1,dropCs_nil]
theorem words_run {enc:Str→Str} (HE:LibB64 lib enc) (HI:LibIdx lib) (HP:LibPre lib) (s:Str) (hs:s.length≤10000) (hbox:∀ a,(BX a)[p]? =some (9,[.flat (.string (S s))])) (hlen:∀ a,(BX a).length=nb) (hoc:∀ a,∀ q∈oc a,q.1<nb)
 (hI:∀ a k x,I a k→k<10002→x.length≤10000→I (step a x) (k+1))
 (hy:∀ a k x,I a k→k<10002→x.length≤10000→evW code lib yldF [.yld b,.flat (.string (S x))] (BX a) (cl (oc a))=some ([.flat (.bool true)],false,BX (step a x),cl (oc (step a x)))) (a:α) (ha:I a 0) :
 evW code lib 147 [.yld b,.ptr p 0] (BX a) (cl (oc a))=some ([],false,BX ((wordsU enc s).foldl step a),cl (oc ((wordsU enc s).foldl step a))):=by
 refine evW_eq code_fold_words_1 (Nat.le_of_ble_eq_true rfl) ?_
 have he0:(⟨#[]⟩:ByteArray)=S []:=rfl
 have hb:=hbox a
 have h1:=hlen a
 by_cases h0:s=[]
 ·have h0':(s=[])=True:=eq_true h0
  simp only [go_sem,simprocAttr,cl_keep,cl_owns,cl_cells,cl_drop,cl_slots,hb,he0,S_eqB,h0',wordsU,List.foldl_nil,trim_same h1,h1,dropCs_nil,cl_under _ (hoc a)]
 have h0':(s=[])=False:=eq_false h0
 have hpl:=plain_ev (lib:=lib) HP s (by omega)
 cases hp:plainU s with
 | true =>
   rw [hp] at hpl
   have hcut:=cut_ev HI s 32 (by omega)
   have hcl:=cutU_len 32 s
   have hr:=words_r0 (lib:=lib) BX oc step I b nb hlen hoc 10002 hI hy (cutU 32 s) (by omega) (by omega) (fun x hx=>by have:=cutU_mem 32 s x hx;omega) a ha (by unfold big;omega)
   have h2:=hlen ((cutU 32 s).foldl step a)
   have h32:((32:UInt8).toNat:Int)=32:=rfl
   rw [h32] at hcut
   simp only [go_sem,simprocAttr,cl_keep,cl_owns,cl_cells,cl_drop,cl_slots,hb,he0,S_eqB,h0',hpl,hp,hcut,hr,wordsU,scells_low,scells_np,trim_same h1,h1,trim_same h2,h2,dropCs_nil,cl_under _ (hoc _)]
 | false =>
   rw [hp] at hpl
   have hrn:=runes_ev (lib:=lib) s (by omega)
   have hnl:=numsU_len s
   obtain ⟨hr,⟨j,hj,hj2⟩,hn45⟩:=words_r1 (lib:=lib) BX oc step I b nb HE hlen hoc 10002 hI hy (numsU s) (by omega) (by omega) (fun x hx=>by have:=numsU_lt s x hx;omega) a ha (by unfold big;omega)
   have hge:=grpS_eq step enc (numsU s) a []
   obtain ⟨⟨a2,now⟩,hg⟩:∃ q,grpS step enc a [] (numsU s)=q:=⟨_,rfl⟩
   rw [hg] at hr hge hj2 hn45
   dsimp only at hr hge hj2 hn45
   have hf:(⟨#[61,63,85,84,70,45,56,63,66,63]⟩:ByteArray)=S frontU:=rfl
   have hbk:(⟨#[63,61]⟩:ByteArray)=S [63,61]:=rfl
   have hcl:=codedU_len HE (g:=now) (by omega)
   have hyy:=hy a2 j (codedU enc now) hj2 (by omega) (by omega)
   have h2:=hlen a2
   have h3:=hlen (step a2 (codedU enc now))
   have he:=b64_ev HE now (by omega)
   have hap:frontU++enc now++[63,61]=codedU enc now:=rfl
   have hel:=(HE now (by omega)).1
   have q1:frontU.length+(enc now).length≤bound:=by unfold bound;simp only [frontU,List.length_cons,List.length_nil];omega
   have q2:(frontU++enc now).length+2≤bound:=by unfold bound;simp only [frontU,List.length_append,List.length_cons,List.length_nil];omega
   have hw:(wordsU enc s).foldl step a=step a2 (codedU enc now):=by simp only [wordsU,h0,hp,Bool.false_eq_true,if_false];exact hge
   rw [hw]
   simp only [go_sem,simprocAttr,cl_keep,cl_owns,cl_cells,cl_drop,cl_slots,hb,he0,S_eqB,h0',hpl,hp,hrn,hr,rcells_low,rcells_np,hf,hbk,S_app,S_size,he,hap,q1,q2,hyy,List.length_cons,trim_same h1,h1,trim_same h2,h2,trim_same h3,h3,dropCs_nil,cl_under _ (hoc _)]
end
end Nun
end
section
namespace Nun
open Go Go.RowKit Go.Proofs Go.Proofs.YtmpiobfdchlikaaGreatDoor
variable {lib:Callee}
theorem words_ev (s:Str) (bx:Boxes) (oc:List (Nat × Nat)) (h:∀ q∈oc,q.1<bx.length):evW code lib 93 [.flat (.string (S s))] bx (cl oc)=some ([.clo 147 [.ptr bx.length 0]],false,bx++[(9,[.flat (.string (S s))])],cl oc):=by
 refine evW_eq code_fold_words (Nat.le_of_ble_eq_true rfl) ?_
 have h3:¬ (bx.length+1=bx.length):=by omega
 have h4:underO (bx.length+1) (cl oc)=cl oc:=cl_under _ fun q hq=>by have:=h q hq;omega
 simp only [go_sem,simprocAttr,cl_keep,cl_owns,cl_cells,cl_drop,List.length_append,h3,Nat.lt_irrefl,h4]
def stepW (q:Str × Nat) (x:Str):Str × Nat:=(putT q.1 x q.2,putL x q.2)
def laidU (enc:Str→Str) (f v:Str):Str:=((wordsU enc v).foldl stepW (f++[58],f.length+1)).1++[13,10]
def bxW (v:Str) (q:Str × Nat):Boxes:=[(144,bld true 0 q.1 [.flat (.int .i64 (q.2:Nat))]),(9,[.flat (.string (S v))]),(0,[.lp 46 0 .ready [6] [.ptr 0 0]])]
def inW (q:Str × Nat) (k:Nat):Prop:=q.1.length≤11000+k * 10010∧q.2≤10010
theorem stepW_in (q:Str × Nat) (k:Nat) (x:Str) (h:inW q k) (hk:k<10002) (hx:x.length≤10000):inW (stepW q x) (k+1):=by
 obtain ⟨h1,h2⟩:=h
 unfold inW stepW putT putL longer
 dsimp only
 by_cases hc:76≤x.length+q.2
 ·simp only [hc,decide_true,if_true,List.length_append,List.length_cons,List.length_nil];omega
 ·simp only [hc,decide_false,Bool.false_eq_true,if_false,List.length_append,List.length_cons];omega
theorem foldW_in:∀ (L:List Str) (k:Nat) (q:Str × Nat),inW q k→(k+L.length≤10002∧∀ x∈L,x.length≤10000)→(L.foldl stepW q).1.length≤200000000
 | [],k,q,h,hl=>by obtain ⟨h1,h2⟩:=h;simp only [List.foldl_nil];have:=hl.1;simp only [List.length_nil] at this;omega
 | x::L,k,q,h,hl=>by
   rw [List.foldl_cons]
   have h1:=hl.1
   simp only [List.length_cons] at h1
   exact foldW_in L (k+1) _ (stepW_in q k x h (by omega) (hl.2 x List.mem_cons_self)) ⟨by omega,fun y hy=>hl.2 y (List.mem_cons_of_mem _ hy)⟩
theorem groupsU_mem {enc:Str→Str} (HE:LibB64 lib enc):∀ (l:List Nat) (now:Str),now.length≤45→∀ x∈groupsU enc now l,x.length≤200
 | [],now,h,x,hx=>by simp [groupsU] at hx;subst hx;exact codedU_len HE (by omega)
 | r::l,now,h,x,hx=>by
   have h4:=bytesU_len r
   simp only [groupsU] at hx
   split at hx
   ·rcases List.mem_cons.1 hx with rfl | hx
    ·exact codedU_len HE (by omega)
    ·exact groupsU_mem HE l _ (by omega) x hx
   ·exact groupsU_mem HE l _ (by rw [List.length_append];omega) x hx
theorem wordsU_len {enc:Str→Str} (HE:LibB64 lib enc) (v:Str) (hv:v.length≤10000):0+(wordsU enc v).length≤10002∧∀ x∈wordsU enc v,x.length≤10000:=by
 unfold wordsU
 split
 ·simp
 ·split
  ·have:=cutU_len 32 v
   exact ⟨by omega,fun x hx=>by have:=cutU_mem 32 v x hx;omega⟩
  ·have:=groupsU_len enc (numsU v) []
   have:=numsU_len v
   exact ⟨by omega,fun x hx=>by have:=groupsU_mem HE _ [] (by simp) x hx;omega⟩
theorem write_round (HB:BldIn lib) (v:Str) (q:Str × Nat) (k:Nat) (x:Str) (h:inW q k) (hk:k<10002) (hx:x.length≤10000):evW code lib yldF [.yld 2,.flat (.string (S x))] (bxW v q) [.cell 0 1]=some ([.flat (.bool true)],false,bxW v (stepW q x),[.cell 0 1]):=by
 refine evW_round code_yld code_fold_Write rfl rfl rfl ?_
 obtain ⟨h1,h2⟩:=h
 have hp:=put_ev (lib:=lib) HB (bx:=[(144,bld true 0 q.1 [.flat (.int .i64 (q.2:Nat))]),(9,[.flat (.string (S v))]),(0,[.lp 46 0 .busy [6] [.ptr 0 0]])]) (r:=[]) (b:=0) (e:=144) (u:=true) (l:=q.1) (w:=x) (long:=q.2) rfl liesL (by omega) (by omega) (by simp) (by simp) (by simp)
 have hc:(Loc.cell 0 1::cl [])=[.cell 0 1]:=rfl
 simp only [hc,List.set_cons_zero] at hp
 simp only [h_fold_Write_0,g_fold_Write_0,bxW,stepW,go_sem,simprocAttr,hp]
theorem write_ev {enc:Str→Str} (HE:LibB64 lib enc) (HI:LibIdx lib) (HP:LibPre lib) (HB:BldIn lib) (f v:Str) (hv:v.length≤10000) (hf:f.length≤10000):evW code lib 46 [.flat (.string (S f)),.flat (.string (S v))] [] [] =
 some ([.flat (.string (S (if nameU f then laidU enc f v else []))),.flat (.int .i64 (if nameU f then 0 else 1))],false,[],[]):=by
 refine evW_eq code_fold_Write (Nat.le_of_ble_eq_true rfl) ?_
 have hn:=name_ev (lib:=lib) f (by omega)
 have he0:(⟨#[]⟩:ByteArray)=S []:=rfl
 have he1:(⟨#[58]⟩:ByteArray)=S [58]:=rfl
 have he2:(⟨#[13,10]⟩:ByteArray)=S [13,10]:=rfl
 cases hnm:nameU f with
 | false =>
   rw [hnm] at hn
   simp only [go_sem,simprocAttr,hn,he0,hnm]
 | true =>
   rw [hnm] at hn
   have w1:IntKind.i64.wrap ((f.length:Int)+1)=((f.length+1:Nat):Int):=wrap64 (by omega)
   have ws1:=ws_ev (lib:=lib) (bx:=[(144,bld false 0 [] [.flat (.int .i64 ((f.length+1:Nat):Int))])]) (r:=[]) (m:=f++[58]) (b:=0) (u:=false) (l:=[]) HB rfl liesL (by simp only [List.length_append,List.length_cons,List.length_nil];unfold bound;omega) (by simp) (by simp)
   have hc0:(Loc.cell 0 1::cl [])=[.cell 0 1]:=rfl
   have hrun:=words_run (lib:=lib) (bxW v) (fun _=>[(0,1)]) stepW inW 2 1 3 HE HI HP v hv (fun _=>rfl) (fun _=>rfl) (fun a q hq=>by simp at hq;subst hq;decide) (fun a k x h1 h2 h3=>stepW_in a k x h1 h2 h3) (fun a k x h1 h2 h3=>write_round HB v a k x h1 h2 h3) (f++[58],f.length+1) ⟨by simp only [List.length_append,List.length_cons,List.length_nil];omega,by dsimp only;omega⟩
   obtain ⟨⟨l,long⟩,hq⟩:∃ q,(wordsU enc v).foldl stepW (f++[58],f.length+1)=q:=⟨_,rfl⟩
   have hlen:=foldW_in (wordsU enc v) 0 (f++[58],f.length+1) ⟨by simp only [List.length_append,List.length_cons,List.length_nil];omega,by dsimp only;omega⟩ (wordsU_len HE v hv)
   rw [hq] at hrun hlen
   have hll:l.length≤200000000:=hlen
   have q1:f.length+1≤bound:=by unfold bound;omega
   have f1:evW code lib 47 [.ptr 0 0,.flat (.string (S (f++[58])))] [(144,[.flat (.pointer none),.slc 0 [],.flat (.int .i64 ((f.length+1:Nat):Int))])] [.cell 0 1]=some ([.flat (.int .i64 ((f++[58]).length:Nat)),.flat .nilIface],false,[(144,[.ptr 0 0,.slc (f++[58]).length (bcells (f++[58])),.flat (.int .i64 ((f.length+1:Nat):Int))])],[.cell 0 1]):=ws1
   have e1:=words_ev (lib:=lib) v [(144,[.ptr 0 0,.slc (f++[58]).length (bcells (f++[58])),.flat (.int .i64 ((f.length+1:Nat):Int))])] [(0,1)] (by simp)
   have e2:=words_ev (lib:=lib) v [] [] (by simp)
   have hc1:cl [(0,1)]=[.cell 0 1]:=rfl
   have hc2:cl []=[]:=rfl
   simp only [hc1,hc2,go_sem,simprocAttr] at e1 e2
   have f2:evW code lib 147 [.yld 2,.ptr 1 0] [(144,[.ptr 0 0,.slc (f++[58]).length (bcells (f++[58])),.flat (.int .i64 ((f.length+1:Nat):Int))]),(9,[.flat (.string (S v))]),(0,[.lp 46 0 .ready [6] [.ptr 0 0]])] [.cell 0 1]=some ([],false,[(144,[.ptr 0 0,.slc l.length (bcells l),.flat (.int .i64 (long:Nat))]),(9,[.flat (.string (S v))]),(0,[.lp 46 0 .ready [6] [.ptr 0 0]])],[.cell 0 1]):=hrun
   have ws2:=ws_ev (lib:=lib) (bx:=[(144,bld true 0 l [.flat (.int .i64 (long:Nat))]),(9,[.flat (.string (S v))])]) (r:=[]) (m:=[13,10]) (b:=0) (u:=true) (l:=l) HB rfl liesL (by simp only [List.length_cons,List.length_nil];unfold bound;omega) (by simp) (by simp)
   have f3:evW code lib 47 [.ptr 0 0,.flat (.string (S [13,10]))] [(144,[.ptr 0 0,.slc l.length (bcells l),.flat (.int .i64 (long:Nat))]),(9,[.flat (.string (S v))])] [.cell 0 1]=some ([.flat (.int .i64 (([13,10]:Str).length:Nat)),.flat .nilIface],false,[(144,[.ptr 0 0,.slc (l++[13,10]).length (bcells (l++[13,10])),.flat (.int .i64 (long:Nat))]),(9,[.flat (.string (S v))])],[.cell 0 1]):=ws2
   have f4:evW code lib 28 [.ptr 0 0] [(144,[.ptr 0 0,.slc (l++[13,10]).length (bcells (l++[13,10])),.flat (.int .i64 (long:Nat))]),(9,[.flat (.string (S v))])] [.cell 0 1]=some ([.flat (.string (S (l++[13,10])))],false,[(144,[.ptr 0 0,.slc (l++[13,10]).length (bcells (l++[13,10])),.flat (.int .i64 (long:Nat))]),(9,[.flat (.string (S v))])],dropL (.cell 0 1) [.cell 0 1]):=st_ev (u:=true) (rest:=[.flat (.int .i64 (long:Nat))]) HB rfl (by simp)
   have hlr:laidU enc f v=l++[13,10]:=by simp only [laidU,hq]
   simp only [go_sem,simprocAttr,hn,he0,he1,he2,hnm,w1,q1,S_size,S_app,f1,e1,e2,f2,f3,f4,bcells_low,hlr]
def walkL {α β:Type} (f:α→Nat→β→α ⊕ (Out × St)) (fin:α→Out × St):α→Nat→List β→Out × St
 | a,_,[]=>fin a
 | a,k,x::t=>match f a k x with
   | .inl a'=>walkL f fin a' (k+1) t
   | .inr r=>r
theorem loop_idx {α β:Type} {body:St→Option (Out × St)} {live:List Nat} {nb:Nat} (head:α→Nat→St) (L:List β) (I:α→Nat→Prop) (f:α→Nat→β→α ⊕ (Out × St)) (fin:α→Out × St)
 (hr:∀ a k x,I a k→k<L.length→L[k]? =some x→L.drop k=x::L.drop (k+1) →
   (∃ a' s,f a k x=.inl a'∧body (head a k)=some (.normal,s)∧s.only live nb=head a' (k+1)∧I a' (k+1))∨(∃ r,f a k x=.inr r∧body (head a k)=some r∧r.1≠.normal))
 (he:∀ a,I a L.length→body (head a L.length)=some (fin a)∧(fin a).1≠.normal) (a:α) (ha:I a 0) (hL:L.length<big) :
 evLoop body live nb big (head a 0)=some (walkL f fin a 0 L):=by
 have hloop:=loop_by (body:=body) (live:=live) (nb:=nb) (fun q:α × Nat=>head q.1 q.2) (fun q=>I q.1 q.2∧q.2≤L.length) (fun q=>L.length - q.2)
  (fun q=>walkL f fin q.1 q.2 (L.drop q.2)) (fun ⟨a,k⟩ ha=>?_) (n:=big) (a:=(a,0)) ⟨ha,Nat.zero_le _⟩ (by dsimp only;omega)
 ·exact hloop
 ·dsimp only at ha ⊢
  obtain ⟨ha,hk⟩:=ha
  by_cases hlt:k<L.length
  ·have hc:L[k]? =some L[k]:=List.getElem?_eq_getElem hlt
   have hd:L.drop k=L[k]::L.drop (k+1):=List.drop_eq_getElem_cons hlt
   rcases hr a k L[k] ha hlt hc hd with ⟨a',s,h1,h2,h3,h4⟩ | ⟨r,h1,h2,h3⟩
   ·right
    exact ⟨s,(a',k+1),h2,h3,⟨h4,hlt⟩,by dsimp only;omega,by dsimp only;rw [hd,walkL,h1]⟩
   ·left
    exact ⟨r.1,r.2,h2,h3,by rw [hd,walkL,h1]⟩
  ·left
   obtain rfl:k=L.length:=by omega
   obtain ⟨h1,h2⟩:=he a ha
   exact ⟨(fin a).1,(fin a).2,h1,h2,by rw [List.drop_length,walkL]⟩
theorem loop_at {α β:Type} {body:St→Option (Out × St)} {live:List Nat} {nb:Nat} (head:α→Nat→St) (L:List β) (I:α→Nat→Prop) (f:α→Nat→β→α ⊕ (Out × St)) (fin:α→Out × St)
 (hr:∀ a k x,I a k→k<L.length→L[k]? =some x→L.drop k=x::L.drop (k+1)→body (head a k)=match f a k x with | .inl a'=>some (.normal,head a' (k+1)) | .inr r=>some r)
 (ho:∀ a k,(head a k).only live nb=head a k) (hI:∀ a k x a',I a k→k<L.length→L[k]? =some x→f a k x=.inl a'→I a' (k+1)) (hn:∀ a k x r,f a k x=.inr r→r.1≠.normal)
 (he:∀ a,I a L.length→body (head a L.length)=some (fin a)) (hf:∀ a,(fin a).1≠.normal) (a:α) (ha:I a 0) (hL:L.length<big) :
 evLoop body live nb big (head a 0)=some (walkL f fin a 0 L) :=
 loop_idx head L I f fin (fun a k x hi hk hx hd=>by
  have h:=hr a k x hi hk hx hd
  cases hq:f a k x with
  | inl a' =>
    rw [hq] at h
    exact .inl ⟨a',_,rfl,h,ho a' (k+1),hI a k x a' hi hk hx hq⟩
  | inr r =>
    rw [hq] at h
    exact .inr ⟨r,rfl,h,hn a k x r hq⟩) (fun a hi=>⟨he a hi,hf a⟩) a ha hL
theorem walk_all {β:Type} {p:β→Bool} {r:Out × St} {fin:Unit→Out × St}:∀ (L:List β) (k:Nat),walkL (fun (_:Unit) _ x=>if p x then .inl () else .inr r) fin () k L=if L.all p then fin () else r
 | [],k=>rfl
 | x::t,k=>by
   rw [walkL,List.all_cons]
   cases hp:p x with
   | true=>rw [if_pos rfl,Bool.true_and];exact walk_all t _
   | false=>rw [if_neg (by simp),Bool.false_and,if_neg (by simp)]
theorem slice_pre (s w:Str) (k:Nat) (h:w.length≤s.length - k) (hk:k≤s.length):decide ((s.take (k+w.length)).drop k=w)=w.isPrefixOf (s.drop k):=by
 rw [List.drop_take,Nat.add_sub_cancel_left,Bool.eq_iff_iff,decide_eq_true_eq,List.isPrefixOf_iff_prefix,List.prefix_iff_eq_take]
 exact eq_comm
theorem pre_long (s w:Str) (h:¬ w.length≤s.length):w.isPrefixOf s=false:=by
 rw [Bool.eq_false_iff]
 intro hp
 exact h (List.IsPrefix.length_le (List.isPrefixOf_iff_prefix.1 hp))
theorem begins2_ev (s w:Str) (k:Nat) (hs:s.length≤1000000000) (hw:w.length≤1000000000) (hk:k≤1000000000):evW code lib 60 [.flat (.string (S s)),.flat (.string (S w)),.flat (.int .i64 (k:Nat))] [] []=some ([.flat (.bool (beginsU s w k))],false,[],[]):=by
 refine evW_eq code_n01_Begins (Nat.le_of_ble_eq_true rfl) ?_
 have c0:(0:Int)≤(k:Nat):=by omega
 have w1:IntKind.i64.wrap ((s.length:Int) - (k:Int))=(s.length:Int) - (k:Int):=wrap64 (by omega)
 have w2:IntKind.i64.wrap ((k:Int)+(w.length:Int))=((k+w.length:Nat):Int):=by rw [wrap64 (by omega)];rfl
 by_cases h:k≤s.length
 ·have c1:(k:Int)≤s.length:=by omega
  by_cases h2:w.length≤s.length - k
  ·have c2:(w.length:Int)≤(s.length:Int) - (k:Int):=by omega
   have c3:(k:Int)≤((k+w.length:Nat):Int):=by omega
   have c4:((k+w.length:Nat):Int)≤s.length:=by omega
   have hp:=slice_pre s w k h2 h
   simp only [go_sem,simprocAttr,beginsU,c0,c1,c2,c3,c4,w1,w2,h,S_size,S_ext,S_eqB,Int.toNat_natCast,hp]
  ·have c2:¬ (w.length:Int)≤(s.length:Int) - (k:Int):=by omega
   have hp:=pre_long (s.drop k) w (by rw [List.length_drop];exact h2)
   simp only [go_sem,simprocAttr,beginsU,c0,c1,c2,w1,h,S_size,hp]
 ·have c1:¬ (k:Int)≤s.length:=by omega
  simp only [go_sem,simprocAttr,beginsU,c0,c1,h,S_size]
def name2 (c:UInt8):Bool:=(decide (65≤c.toNat) && decide (c.toNat≤90)) || ((decide (97≤c.toNat) && decide (c.toNat≤122)) || ((decide (48≤c.toNat) && decide (c.toNat≤57)) || decide (c.toNat=45)))
theorem name2_eq (c:UInt8):name2 c=nameB c:=by
 have:=byte_all (p:=fun n=>((decide (65≤n) && decide (n≤90)) || ((decide (97≤n) && decide (n≤122)) || ((decide (48≤n) && decide (n≤57)) || decide (n=45)))) == (!((decide ((n ||| 32)<97) || decide (122<(n ||| 32))) && ((decide (n<48) || decide (57<n)) && !decide (n=45))))) (by decide +kernel) c
 exact eq_of_beq this
theorem name2_ev (s:Str) (hs:s.length≤1000000000):evW code lib 49 [.flat (.string (S s))] [] []=some ([.flat (.bool (nameU s))],false,[],[]):=by
 refine evW_eq code_n09_Name (Nat.le_of_ble_eq_true rfl) ?_
 have hloop:=loop_at (body:=evC (evW code lib) big b_n09_Name_0) (live:=[0,3]) (nb:=0) (fun (_:Unit) k=>⟨[(0,.flat (.string (S s))),(3,.flat (.int .i64 (k:Nat)))],[],[],[]⟩) s (fun _ _=>True)
  (fun _ k x=>if nameB x then .inl () else .inr (.ret,⟨[(2,.flat (.bool false))],[],[],[]⟩)) (fun _=>(.exit 0,⟨[],[],[],[]⟩)) (fun _ k c _ hk hc hd=>?_) (fun _ _=>by simp only [go_sem,simprocAttr]) (fun _ _ _ _ _ _ _ _=>trivial) (fun _ _ x r h=>by split at h<;>simp at h;rw [← h];simp) (fun _ _=>?_) (fun _=>by simp) () trivial (by unfold big;omega)
 ·rw [walk_all] at hloop
  simp only [n0] at hloop
  by_cases h1:s.length<1
  ·have h2:s=[]:=List.eq_nil_of_length_eq_zero (by omega)
   subst h2
   have d1:(0:Int)<1:=by omega
   simp only [go_sem,simprocAttr,S_size,d1,List.length_nil,nameU,Int.ofNat_zero]
  ·have d1:¬ (s.length:Int)<1:=by omega
   have h2:¬ s=[]:=fun h=>by subst h;simp at h1
   by_cases h3:32<s.length
   ·have d2:(32:Int)<s.length:=by omega
    have h3':¬ s.length≤32:=by omega
    simp only [go_sem,simprocAttr,S_size,d1,d2,nameU,h3',h2,Bool.and_false]
   ·have d2:¬ (32:Int)<s.length:=by omega
    have h3':s.length≤32:=by omega
    cases ha:s.all nameB with
    | true =>
      simp only [ha,if_true] at hloop
      simp only [go_sem,simprocAttr,S_size,d1,d2,nameU,h3',h2,hloop,ha]
    | false =>
      simp only [ha,Bool.false_eq_true,if_false] at hloop
      simp only [go_sem,simprocAttr,S_size,d1,d2,nameU,h3',h2,hloop,ha]
 ·have c1:(k:Int)<s.length:=by omega
  have c2:(0:Int)≤(k:Nat):=by omega
  have w1:IntKind.i64.wrap ((k:Int)+1)=((k+1:Nat):Int):=wrap64 (by omega)
  rw [← name2_eq]
  unfold name2
  obtain ⟨n,hn⟩:∃ n,c.toNat=n:=⟨_,rfl⟩
  rw [hn]
  have d1:((65:Int)≤((n:Nat):Int))=(65≤n):=by apply propext;omega
  have d2:(((n:Nat):Int)≤(90:Int))=(n≤90):=by apply propext;omega
  have d3:((97:Int)≤((n:Nat):Int))=(97≤n):=by apply propext;omega
  have d4:(((n:Nat):Int)≤(122:Int))=(n≤122):=by apply propext;omega
  have d5:((48:Int)≤((n:Nat):Int))=(48≤n):=by apply propext;omega
  have d6:(((n:Nat):Int)≤(57:Int))=(n≤57):=by apply propext;omega
  have d7:(((n:Nat):Int)=(45:Int))=(n=45):=by apply propext;omega
  rcases Classical.em (65≤n) with a1 | a1
  all_goals first | (exfalso;omega) | skip
  all_goals rcases Classical.em (n≤90) with a2 | a2
  all_goals first | (exfalso;omega) | skip
  all_goals rcases Classical.em (97≤n) with a3 | a3
  all_goals first | (exfalso;omega) | skip
  all_goals rcases Classical.em (n≤122) with a4 | a4
  all_goals first | (exfalso;omega) | skip
  all_goals rcases Classical.em (48≤n) with a5 | a5
  all_goals first | (exfalso;omega) | skip
  all_goals rcases Classical.em (n≤57) with a6 | a6
  all_goals first | (exfalso;omega) | skip
  all_goals rcases Classical.em (n=45) with a7 | a7
  all_goals first | (exfalso;omega) | skip
  all_goals
   first | have e1:=eq_false a1 | have e1:=eq_true a1
   first | have e2:=eq_false a2 | have e2:=eq_true a2
   first | have e3:=eq_false a3 | have e3:=eq_true a3
   first | have e4:=eq_false a4 | have e4:=eq_true a4
   first | have e5:=eq_false a5 | have e5:=eq_true a5
   first | have e6:=eq_false a6 | have e6:=eq_true a6
   first | have e7:=eq_false a7 | have e7:=eq_true a7
   clear a1 a2 a3 a4 a5 a6 a7
  all_goals simp only [on_n09_Name_0,go_sem,simprocAttr,S_size,S_get,Int.toNat_natCast,hc,kByte_some,hn,c1,c2,w1,d1,d2,d3,d4,d5,d6,d7,e1,e2,e3,e4,e5,e6,e7,Bool.true_or,Bool.or_true,Bool.false_or,Bool.or_false]
 ·have c1:¬ (s.length:Int)<s.length:=by omega
  simp only [on_n09_Name_0,go_sem,simprocAttr,S_size,c1]
theorem cutU_pre {c:UInt8} (t:Str):∀ p:Str,(∀ x∈p,x≠c)→cutU c (p++c::t)=p::cutU c t
 | [],h=>by simp [cutU]
 | y::p,h=>by
   have:=cutU_pre t p fun x hx=>h x (List.mem_cons_of_mem _ hx)
   rw [List.cons_append,cutU,if_neg (h y List.mem_cons_self),this]
theorem cutU_whole {c:UInt8}:∀ p:Str,(∀ x∈p,x≠c)→cutU c p=[p]
 | [],h=>rfl
 | y::p,h=>by
   have:=cutU_whole p fun x hx=>h x (List.mem_cons_of_mem _ hx)
   rw [cutU,if_neg (h y List.mem_cons_self),this]
def fCut (s:Str) (c:UInt8) (q:List Str × Nat) (k:Nat) (x:UInt8):(List Str × Nat) ⊕ (Out × St):=.inl (if x.toNat=c.toNat then (q.1++[(s.take k).drop q.2],k+1) else q)
theorem walk_cut (s:Str) (c:UInt8) (fin:List Str × Nat→Out × St):∀ (t:Str) (out:List Str) (fr k:Nat),s.drop k=t→fr≤k→k≤s.length→(∀ x∈(s.take k).drop fr,x≠c)→∃ st:List Str × Nat,walkL (fCut s c) fin (out,fr) k t=fin st∧st.1++[s.drop st.2]=out++cutU c (s.drop fr)∧st.2≤s.length∧st.1.length≤out.length+t.length
 | [],out,fr,k,h,h1,h2,h3=>by
   have hk:k=s.length:=by have:=congrArg List.length h;rw [List.length_drop] at this;simp at this;omega
   subst hk
   rw [List.take_length] at h3
   exact ⟨(out,fr),rfl,by rw [cutU_whole _ h3],by omega,by simp⟩
 | x::t,out,fr,k,h,h1,h2,h3=>by
   have hlt:k<s.length:=by have:=congrArg List.length h;rw [List.length_drop] at this;simp at this;omega
   have hd:s.drop k=s[k]::s.drop (k+1):=List.drop_eq_getElem_cons hlt
   rw [hd] at h
   obtain ⟨hx,ht⟩:=List.cons.inj h
   have htk:s.take (k+1)=s.take k++[x]:=by rw [List.take_succ_eq_append_getElem hlt,hx]
   have hsp:s.drop fr=(s.take k).drop fr++x::t:=by
    rw [← hx,← ht,← hd]
    conv=>lhs;rw [← List.take_append_drop k s]
    rw [List.drop_append_of_le_length (by rw [List.length_take];omega)]
   simp only [walkL,fCut]
   by_cases hc:x.toNat=c.toNat
   ·have hxc:x=c:=UInt8.toNat_inj.1 hc
    rw [if_pos hc]
    obtain ⟨st,h4,h5,h6,h7⟩:=walk_cut s c fin t (out++[(s.take k).drop fr]) (k+1) (k+1) ht (Nat.le_refl _) hlt (by intro y hy;rw [List.drop_of_length_le (by rw [List.length_take];omega)] at hy;cases hy)
    refine ⟨st,h4,?_,h6,by simp only [List.length_append,List.length_cons,List.length_nil] at h7 ⊢;omega⟩
    rw [h5,hsp,hxc,cutU_pre _ _ h3,← ht,List.append_assoc];rfl
   ·rw [if_neg hc]
    obtain ⟨st,h4,h5,h6,h7⟩:=walk_cut s c fin t out fr (k+1) ht (by omega) hlt (by
     intro y hy
     rw [htk,List.drop_append_of_le_length (by rw [List.length_take];omega)] at hy
     rcases List.mem_append.1 hy with hy | hy
     ·exact h3 y hy
     ·simp at hy;subst hy;exact fun h=>hc (by rw [h]))
    exact ⟨st,h4,h5,h6,by simp only [List.length_cons];omega⟩
def headCut (s:Str) (c:UInt8) (q:List Str × Nat) (k:Nat):St:=⟨[(0,.flat (.string (S s))),(1,.flat (.int .u8 c.toNat)),(5,.slc q.1.length (scells q.1)),(6,.flat (.int .i64 (q.2:Nat))),(7,.flat (.int .i64 (k:Nat)))],[.slot 5],[],[]⟩
theorem cut2_ev (s:Str) (c:UInt8) (hs:s.length≤1000000000):evW code lib 98 [.flat (.string (S s)),.flat (.int .u8 c.toNat)] [] []=some ([.slc (cutU c s).length (scells (cutU c s))],true,[],[]):=by
 refine evW_eq code_n01_Cut (Nat.le_of_ble_eq_true rfl) ?_
 have hloop:=loop_at (body:=evC (evW code lib) big b_n01_Cut_0) (live:=[0,1,5,6,7]) (nb:=0) (headCut s c) s (fun q k=>q.2≤k∧q.1.length≤k)
  (fCut s c) (fun q=>(.exit 0,⟨[(0,.flat (.string (S s))),(5,.slc q.1.length (scells q.1)),(6,.flat (.int .i64 (q.2:Nat)))],[.slot 5],[],[]⟩)) (fun ⟨out,fr⟩ k x hi hk hc hd=>?_) (fun _ _=>by simp only [headCut,go_sem,simprocAttr]) (fun ⟨out,fr⟩ k x a' hi _ _ h=>by
    simp only [fCut,Sum.inl.injEq] at h;subst h;dsimp only at hi;split
    ·simp only [List.length_append,List.length_cons,List.length_nil];omega
    ·dsimp only;omega) (fun _ _ x r h=>by simp [fCut] at h) (fun ⟨out,fr⟩ hi=>?_) (fun _=>by simp) ([],0) ⟨Nat.le_refl _,Nat.le_refl _⟩ (by unfold big;omega)
 ·obtain ⟨⟨out,fr⟩,h1,h2,h3,h4⟩:=walk_cut s c (fun q=>(.exit 0,⟨[(0,.flat (.string (S s))),(5,.slc q.1.length (scells q.1)),(6,.flat (.int .i64 (q.2:Nat)))],[.slot 5],[],[]⟩)) s [] 0 0 rfl (Nat.le_refl _) (Nat.zero_le _) (by simp)
  rw [h1] at hloop
  simp only [headCut,n0,List.length_nil,scells,List.map_nil] at hloop
  simp only [List.nil_append,List.drop_zero] at h2
  have hb:out.length+1≤bound:=by unfold bound;simp only [List.length_nil] at h4;omega
  have c1:(0:Int)≤(fr:Nat):=by omega
  have c2:(fr:Int)≤s.length:=by dsimp only at h3;omega
  have tk:(s.take s.length).drop fr=s.drop fr:=by rw [List.take_length]
  have e1:[PV.flat (.string (S (s.drop fr)))]=scells [s.drop fr]:=rfl
  have e2:List.map (fun x=>PV.flat (.string (S x))) out=scells out:=rfl
  rw [e2] at hloop
  simp only [go_sem,simprocAttr,hloop,S_size,S_ext,c1,c2,tk,Int.toNat_natCast,scells_len,scells_noU8,hb]
  rw [← h2]
  simp only [e1,scells_app,List.length_append,List.length_cons,List.length_nil]
 ·dsimp only at hi
  have c1:(k:Int)<s.length:=by omega
  have c2:(0:Int)≤(k:Nat):=by omega
  have c3:(0:Int)≤(fr:Nat):=by omega
  have c4:(fr:Int)≤(k:Nat):=by omega
  have c5:(k:Int)≤s.length:=by omega
  have w1:IntKind.i64.wrap ((k:Int)+1)=((k+1:Nat):Int):=wrap64 (by omega)
  have hb:out.length+1≤bound:=by unfold bound;omega
  have e1:[PV.flat (.string (S ((s.take k).drop fr)))]=scells [(s.take k).drop fr]:=rfl
  have d1:((x.toNat:Int)=c.toNat)=(x.toNat=c.toNat):=by apply propext;omega
  by_cases h:x.toNat=c.toNat
  ·have h':=eq_true h
   simp only [on_n01_Cut_0,headCut,fCut,go_sem,simprocAttr,S_size,S_get,S_ext,Int.toNat_natCast,hc,kByte_some,c1,c2,c3,c4,c5,w1,d1,h',hb,scells_len,scells_noU8]
   simp only [e1,scells_app,List.length_append,List.length_cons,List.length_nil]
  ·have h':=eq_false h
   simp only [on_n01_Cut_0,headCut,fCut,go_sem,simprocAttr,S_size,S_get,S_ext,Int.toNat_natCast,hc,kByte_some,c1,c2,w1,d1,h']
 ·dsimp only at hi
  have c1:¬ (s.length:Int)<s.length:=by omega
  simp only [on_n01_Cut_0,headCut,go_sem,simprocAttr,S_size,c1]
def allK {β:Type} (p:Nat→β→Bool):Nat→List β→Bool
 | _,[]=>true
 | k,x::t=>p k x && allK p (k+1) t
theorem walk_allK {β:Type} {p:Nat→β→Bool} {r:Out × St} {fin:Unit→Out × St}:∀ (L:List β) (k:Nat),walkL (fun (_:Unit) k x=>if p k x then .inl () else .inr r) fin () k L=if allK p k L then fin () else r
 | [],k=>rfl
 | x::t,k=>by
   rw [walkL,allK]
   cases hp:p k x with
   | true=>rw [if_pos rfl,Bool.true_and];exact walk_allK t _
   | false=>rw [if_neg (by simp),Bool.false_and,if_neg (by simp)]
def okB (s:Str) (k:Nat) (c:UInt8):Bool:=!(decide (c.toNat<32) || (decide (126<c.toNat) || beginsU s [61,63] k))
def okL (long:Nat) (w:Str):Bool:=!(decide (long+w.length<1) || decide (60<long+w.length))
theorem cutU_ne (c:UInt8) (s:Str):∃ p ps,cutU c s=p::ps:=by
 cases s with
 | nil=>exact ⟨_,_,rfl⟩
 | cons x l =>
   simp only [cutU]
   split
   ·exact ⟨_,_,rfl⟩
   ·split<;>exact ⟨_,_,rfl⟩
theorem goP_eq (s:Str):∀ (t:Str) (k long:Nat),long≤60→(match goP s k long t with | none=>false | some n=>decide (0<n))=(allK (okB s) k t && (match cutU 32 t with | p::ps=>okL long p && ps.all (okL 0) | []=>false))
 | [],k,long,hl=>by
   simp only [goP,allK,cutU,okL,List.length_nil,List.all_nil,Bool.and_true,Bool.true_and,Nat.add_zero]
   by_cases h:0<long
   ·have h1:¬ long<1:=by omega
    have h2:¬ 60<long:=by omega
    simp only [h,h1,h2,decide_true,decide_false];rfl
   ·have h1:long<1:=by omega
    simp only [h,h1,decide_true,decide_false];rfl
 | c::t,k,long,hl=>by
   obtain ⟨p,ps,hps⟩:=cutU_ne 32 t
   rw [goP,allK]
   obtain ⟨ok,hok⟩:∃ b,okB s k c=b:=⟨_,rfl⟩
   have hst:stopP s k c long=((decide (c.toNat=32) && decide (long=0)) || !ok):=by
    rw [← hok];unfold stopP okB;rw [Bool.not_not]
   rw [hst,hok]
   cases ok with
   | false=>simp
   | true =>
     simp only [Bool.not_true,Bool.or_false,Bool.true_and]
     by_cases h32:c.toNat=32
     ·have hc:c=32:=UInt8.toNat_inj.1 h32
      have ih:=goP_eq s t (k+1) 0 (by omega)
      have hn:nextP c long=0:=by simp only [nextP,h32,if_true]
      rw [hn,cutU,if_pos hc]
      by_cases hz:long=0
      ·subst hz
       simp [h32,okL]
      ·have h60:¬ 60<long+0:=by omega
       have hz1:¬ long+0<1:=by omega
       simp only [h32,hz,decide_true,decide_false,Bool.and_false,Bool.false_or,Bool.false_eq_true,if_false,Nat.not_lt_zero]
       rw [ih,hps]
       simp only [okL,List.length_nil,h60,hz1,List.all_cons,decide_false,Bool.or_false,Bool.not_false,Bool.true_and,Nat.zero_add]
     ·have hc:¬ c=32:=fun h=>h32 (by rw [h];rfl)
      have hn:nextP c long=long+1:=by simp only [nextP,h32,if_false]
      rw [hn,cutU,if_neg hc,hps]
      simp only [h32,decide_false,Bool.false_and,Bool.false_or]
      by_cases h60:60<long+1
      ·have h2:60<long+(p.length+1):=by omega
       simp only [h60,h2,decide_true,if_true,okL,List.length_cons,Bool.or_true,Bool.not_true,Bool.false_and,Bool.and_false]
      ·have ih:=goP_eq s t (k+1) (long+1) (by omega)
       simp only [h60,decide_false,Bool.false_eq_true,if_false]
       rw [ih,hps]
       have e1:okL long (c::p)=okL (long+1) p:=by unfold okL;rw [List.length_cons,show long+(p.length+1)=long+1+p.length from by omega]
       simp only [e1]
def plain2U (s:Str):Bool:=decide (s=[]) || ((cutU 32 s).all (okL 0) && allK (okB s) 0 s)
theorem plain2_eq (s:Str):plain2U s=plainU s:=by
 unfold plain2U plainU
 have h:=goP_eq s s 0 0 (by omega)
 obtain ⟨p,ps,hps⟩:=cutU_ne 32 s
 simp only [hps] at h
 rw [hps,List.all_cons,Bool.and_comm (okL 0 p && ps.all (okL 0)),← h]
 first | done | (cases goP s 0 0 s<;>rfl)
theorem plain2_ev (s:Str) (hs:s.length≤1000000000):evW code lib 97 [.flat (.string (S s))] [] []=some ([.flat (.bool (plainU s))],false,[],[]):=by
 refine evW_eq code_n09_Plain (Nat.le_of_ble_eq_true rfl) ?_
 rw [← plain2_eq]
 have he0:(⟨#[]⟩:ByteArray)=S []:=rfl
 by_cases h0:s=[]
 ·have h0':=eq_true h0
  simp only [go_sem,simprocAttr,he0,S_eqB,h0',plain2U,Bool.true_or]
 have h0':=eq_false h0
 have hcut:=cut2_ev (lib:=lib) s 32 hs
 have h32:((32:UInt8).toNat:Int)=32:=rfl
 rw [h32] at hcut
 have hcl:=cutU_len 32 s
 obtain ⟨L,hL⟩:∃ L,cutU 32 s=L:=⟨_,rfl⟩
 rw [hL] at hcut hcl
 have hl0:=loop_at (body:=evC (evW code lib) big b_n09_Plain_0) (live:=[0,3,4]) (nb:=0) (fun (_:Unit) k=>⟨[(0,.flat (.string (S s))),(3,.slc L.length (scells L)),(4,.flat (.int .i64 (k:Nat)))],[.slot 3],[],[]⟩) L (fun _ _=>True)
  (fun _ k x=>if okL 0 x then .inl () else .inr (.ret,⟨[(2,.flat (.bool false))],[],[],[]⟩)) (fun _=>(.exit 0,⟨[(0,.flat (.string (S s)))],[],[],[]⟩)) (fun _ k x _ hk hc hd=>?_) (fun _ _=>by simp only [go_sem,simprocAttr]) (fun _ _ _ _ _ _ _ _=>trivial) (fun _ _ x r h=>by split at h<;>simp at h;rw [← h];simp) (fun _ _=>?_) (fun _=>by simp) () trivial (by unfold big;omega)
 ·have hl1:=loop_at (body:=evC (evW code lib) big b_n09_Plain_1) (live:=[0,5]) (nb:=0) (fun (_:Unit) k=>⟨[(0,.flat (.string (S s))),(5,.flat (.int .i64 (k:Nat)))],[],[],[]⟩) s (fun _ _=>True)
   (fun _ k x=>if okB s k x then .inl () else .inr (.ret,⟨[(2,.flat (.bool false))],[],[],[]⟩)) (fun _=>(.exit 2,⟨[],[],[],[]⟩)) (fun _ k c _ hk hc hd=>?_) (fun _ _=>by simp only [go_sem,simprocAttr]) (fun _ _ _ _ _ _ _ _=>trivial) (fun _ _ x r h=>by split at h<;>simp at h;rw [← h];simp) (fun _ _=>?_) (fun _=>by simp) () trivial (by unfold big;omega)
  ·rw [walk_all] at hl0
   rw [walk_allK] at hl1
   simp only [n0] at hl0 hl1
   cases ha:L.all (okL 0) with
   | false =>
     simp only [ha,Bool.false_eq_true,if_false] at hl0
     simp only [go_sem,simprocAttr,he0,S_eqB,h0',plain2U,hL,ha,hcut,hl0,scells_np,Bool.false_or,Bool.false_and]
   | true =>
     simp only [ha,if_true] at hl0
     cases hb:allK (okB s) 0 s with
     | false =>
       simp only [hb,Bool.false_eq_true,if_false] at hl1
       simp only [go_sem,simprocAttr,he0,S_eqB,h0',plain2U,hL,ha,hb,hcut,hl0,hl1,scells_np,Bool.false_or,Bool.true_and,Bool.and_false,Bool.and_true]
     | true =>
       simp only [hb,if_true] at hl1
       simp only [go_sem,simprocAttr,he0,S_eqB,h0',plain2U,hL,ha,hb,hcut,hl0,hl1,scells_np,Bool.false_or,Bool.true_and,Bool.and_false,Bool.and_true]
  ·have c1:(k:Int)<s.length:=by omega
   have c2:(0:Int)≤(k:Nat):=by omega
   have w1:IntKind.i64.wrap ((k:Int)+1)=((k+1:Nat):Int):=wrap64 (by omega)
   have hq:(⟨#[61,63]⟩:ByteArray)=S [61,63]:=rfl
   have hb:=begins2_ev (lib:=lib) s [61,63] k hs (by simp) (by omega)
   unfold okB
   obtain ⟨n,hn⟩:∃ n,c.toNat=n:=⟨_,rfl⟩
   obtain ⟨bg,hbg⟩:∃ bg,beginsU s [61,63] k=bg:=⟨_,rfl⟩
   rw [hn,hbg]
   rw [hbg] at hb
   have d1:(((n:Nat):Int)<(32:Int))=(n<32):=by apply propext;omega
   have d2:((126:Int)<((n:Nat):Int))=(126<n):=by apply propext;omega
   rcases Classical.em (n<32) with a1 | a1
   all_goals first | (exfalso;omega) | skip
   all_goals rcases Classical.em (126<n) with a2 | a2
   all_goals first | (exfalso;omega) | skip
   all_goals
    first | have e1:=eq_false a1 | have e1:=eq_true a1
    first | have e2:=eq_false a2 | have e2:=eq_true a2
    clear a1 a2
   all_goals cases bg
   all_goals simp only [on_n09_Plain_1,go_sem,simprocAttr,S_size,S_get,Int.toNat_natCast,hc,kByte_some,hn,c1,c2,w1,hq,hb,d1,d2,e1,e2,Bool.true_or,Bool.or_true,Bool.false_or,Bool.or_false]
  ·have c1:¬ (s.length:Int)<s.length:=by omega
   simp only [on_n09_Plain_1,go_sem,simprocAttr,S_size,c1]
 ·have c1:(k:Int)<L.length:=by omega
  have c2:(0:Int)≤(k:Nat):=by omega
  have w1:IntKind.i64.wrap ((k:Int)+1)=((k+1:Nat):Int):=wrap64 (by omega)
  have hsc:(scells L).drop k=.flat (.string (S x))::(scells L).drop (k+1):=by simp only [scells,← List.map_drop,hd,List.map_cons]
  have hle:1≤((scells L).drop (k+1)).length+1:=by omega
  unfold okL
  obtain ⟨n,hn⟩:∃ n,x.length=n:=⟨_,rfl⟩
  rw [hn,Nat.zero_add]
  have d1:(((n:Nat):Int)<(1:Int))=(n<1):=by apply propext;omega
  have d2:((60:Int)<((n:Nat):Int))=(60<n):=by apply propext;omega
  rcases Classical.em (n<1) with a1 | a1
  all_goals first | (exfalso;omega) | skip
  all_goals rcases Classical.em (60<n) with a2 | a2
  all_goals first | (exfalso;omega) | skip
  all_goals
   first | have e1:=eq_false a1 | have e1:=eq_true a1
   first | have e2:=eq_false a2 | have e2:=eq_true a2
   clear a1 a2
  all_goals simp only [on_n09_Plain_0,go_sem,simprocAttr,S_size,Int.toNat_natCast,c1,c2,w1,hn,hsc,hle,List.length_cons,scells_len,d1,d2,e1,e2,Bool.true_or,Bool.or_true,Bool.false_or,Bool.or_false]
 ·have c1:¬ (L.length:Int)<L.length:=by omega
  simp only [on_n09_Plain_0,go_sem,simprocAttr,S_size,c1]
def LibR64 (lib:Callee) (enc:Str→Str):Prop:=∀ s:Str,s.length≤100→(enc s).length≤136∧lib 155 [.flat (.string (S s))] [] []=some ([.flat (.string (S (enc s)))],false,[],[])
theorem r64_ev {enc:Str→Str} (H:LibR64 lib enc) (s:Str) (h:s.length≤100):evW code lib 155 [.flat (.string (S s))] [] []=some ([.flat (.string (S (enc s)))],false,[],[]) :=
 evW_lib (by decide) (by kernel_rfl) (H s h).2
theorem coded2_ev {enc:Str→Str} (H:LibR64 lib enc) (s:Str) (h:s.length≤100):evW code lib 100 [.flat (.string (S s))] [] []=some ([.flat (.string (S (codedU enc s)))],false,[],[]):=by
 refine evW_eq code_n09_coded (Nat.le_of_ble_eq_true rfl) ?_
 have he:=r64_ev H s h
 have hf:(⟨#[61,63,85,84,70,45,56,63,66,63]⟩:ByteArray)=S frontU:=rfl
 have hbk:(⟨#[63,61]⟩:ByteArray)=S [63,61]:=rfl
 have hap:frontU++enc s++[63,61]=codedU enc s:=rfl
 have hel:=(H s h).1
 have q1:frontU.length+(enc s).length≤bound:=by unfold bound;simp only [frontU,List.length_cons,List.length_nil];omega
 have q2:(frontU++enc s).length+2≤bound:=by unfold bound;simp only [frontU,List.length_append,List.length_cons,List.length_nil];omega
 simp only [go_sem,simprocAttr,hf,hbk,he,S_app,S_size,hap,q1,q2,List.length_cons]
def fGrp (enc:Str→Str) (q:List Str × Str) (_:Nat) (r:Nat):(List Str × Str) ⊕ (Out × St):=.inl (if 45<q.2.length+(bytesU r).length then (q.1++[codedU enc q.2],bytesU r) else (q.1,q.2++bytesU r))
theorem walk_grp (enc:Str→Str) (fin:List Str × Str→Out × St):∀ (l:List Nat) (out:List Str) (now:Str) (k:Nat),walkL (fGrp enc) fin (out,now) k l=fin (grpS (fun o x=>o++[x]) enc out now l)
 | [],out,now,k=>rfl
 | r::l,out,now,k=>by
   simp only [walkL,fGrp,grpS]
   by_cases h:45<now.length+(bytesU r).length
   ·simp only [h,if_true];exact walk_grp enc fin l _ _ _
   ·simp only [h,if_false];exact walk_grp enc fin l _ _ _
theorem foldl_snoc:∀ (L o:List Str),L.foldl (fun o x=>o++[x]) o=o++L
 | [],o=>by simp
 | x::L,o=>by rw [List.foldl_cons,foldl_snoc L];simp
theorem grp_in (enc:Str→Str):∀ (l:List Nat) (out:List Str) (now:Str),now.length≤45→(grpS (fun o x=>o++[x]) enc out now l).2.length≤45∧(grpS (fun o x=>o++[x]) enc out now l).1.length≤out.length+l.length
 | [],out,now,h=>⟨h,by simp [grpS]⟩
 | r::l,out,now,h=>by
   have h4:=bytesU_len r
   simp only [grpS]
   split
   ·have:=grp_in enc l (out++[codedU enc now]) (bytesU r) (by omega)
    simp only [List.length_append,List.length_cons,List.length_nil] at this ⊢
    omega
   ·have:=grp_in enc l out (now++bytesU r) (by rw [List.length_append];omega)
    simp only [List.length_cons]
    omega
def headG (R:List Nat) (q:List Str × Str) (k:Nat):St:=⟨[(3,.slc q.1.length (scells q.1)),(4,.slc R.length (icells R)),(5,.flat (.string (S q.2))),(6,.flat (.int .i64 (k:Nat)))],[.slot 3],[],[]⟩
theorem icells_np:∀ a:List Nat,noPtrs (icells a)=true
 | []=>rfl
 | c::a=>by show noPtrs (.flat (.int .i64 (c:Nat))::icells a)=true;simp only [noPtrs,PV.noPtr,icells_np a,Bool.true_and]
theorem words2_ev {enc:Str→Str} (H:LibR64 lib enc) (s:Str) (hs:s.length≤1000000):evW code lib 50 [.flat (.string (S s))] [] []=some ([.slc (wordsU enc s).length (scells (wordsU enc s))],true,[],[]):=by
 have he0:(⟨#[]⟩:ByteArray)=S []:=rfl
 have hpl:=plain2_ev (lib:=lib) s (by omega)
 by_cases h0:s=[]
 ·have h0':=eq_true h0
  refine evW_eq code_n09_words (Nat.le_of_ble_eq_true rfl) ?_
  simp only [go_sem,simprocAttr,he0,S_eqB,h0',wordsU,scells,List.map_nil,List.length_nil]
 have h0':=eq_false h0
 cases hp:plainU s with
 | true =>
   rw [hp] at hpl
   have hcut:=cut2_ev (lib:=lib) s 32 (by omega)
   have h32:((32:UInt8).toNat:Int)=32:=rfl
   rw [h32] at hcut
   refine evW_eq code_n09_words (Nat.le_of_ble_eq_true rfl) ?_
   simp only [go_sem,simprocAttr,he0,S_eqB,h0',hpl,hcut,wordsU,hp,scells_np,scells_low]
 | false =>
   rw [hp] at hpl
   have hrn:=runes2_ev (lib:=lib) s (by omega)
   have hnl:=numsU_len s
   obtain ⟨R,hR⟩:∃ R,numsU s=R:=⟨_,rfl⟩
   rw [hR] at hrn hnl
   have hloop:=loop_at (body:=evC (evW code lib) big b_n09_words_0) (live:=[3,4,5,6]) (nb:=0) (headG R) R (fun q k=>q.2.length≤45∧q.1.length≤k)
    (fGrp enc) (fun q=>(.exit 0,⟨[(3,.slc q.1.length (scells q.1)),(5,.flat (.string (S q.2)))],[.slot 3],[],[]⟩)) (fun ⟨out,now⟩ k r hi hk hc hd=>?_) (fun _ _=>by simp only [headG,go_sem,simprocAttr]) (fun ⟨out,now⟩ k r a' hi _ _ h=>by
      have h4:=bytesU_len r
      simp only [fGrp,Sum.inl.injEq] at h;subst h;dsimp only at hi;split
      ·simp only [List.length_append,List.length_cons,List.length_nil];omega
      ·dsimp only;rw [List.length_append];omega) (fun _ _ x r h=>by simp [fGrp] at h) (fun ⟨out,now⟩ hi=>?_) (fun _=>by simp) ([],[]) ⟨by simp,Nat.le_refl _⟩ (by unfold big;omega)
   ·rw [walk_grp] at hloop
    have hin:=grp_in enc R [] [] (by simp)
    have hge:=grpS_eq (fun o x=>o++[x]) enc R [] []
    obtain ⟨⟨out,now⟩,hg⟩:∃ q,grpS (fun o x=>o++[x]) enc [] [] R=q:=⟨_,rfl⟩
    rw [hg] at hloop hin hge
    dsimp only at hin hge
    rw [foldl_snoc,List.nil_append] at hge
    simp only [headG,n0,List.length_nil,scells,List.map_nil] at hloop
    have e2:List.map (fun x=>PV.flat (.string (S x))) out=scells out:=rfl
    rw [e2] at hloop
    have hcd:=coded2_ev H now (by omega)
    have hb:out.length+1≤bound:=by unfold bound;simp only [List.length_nil] at hin;omega
    have e1:[PV.flat (.string (S (codedU enc now)))]=scells [codedU enc now]:=rfl
    have hw:wordsU enc s=out++[codedU enc now]:=by simp only [wordsU,h0,hp,hR,Bool.false_eq_true,if_false];exact hge
    rw [hw]
    refine evW_eq code_n09_words (Nat.le_of_ble_eq_true rfl) ?_
    simp only [go_sem,simprocAttr,he0,S_eqB,h0',hpl,hrn,icells_np,hloop,hcd,scells_len,scells_noU8,hb]
    all_goals simp only [e1,scells_app,List.length_append,List.length_cons,List.length_nil]
   ·dsimp only at hi
    have c1:(k:Int)<R.length:=by omega
    have c2:(0:Int)≤(k:Nat):=by omega
    have w1:IntKind.i64.wrap ((k:Int)+1)=((k+1:Nat):Int):=wrap64 (by omega)
    have hsc:(icells R).drop k=.flat (.int .i64 (r:Nat))::(icells R).drop (k+1):=by simp only [icells,← List.map_drop,hd,List.map_cons]
    have hle:1≤((icells R).drop (k+1)).length+1:=by omega
    have hb2:=bytes2_ev (lib:=lib) r
    have h4:=bytesU_len r
    have w2:IntKind.i64.wrap ((now.length:Int)+((bytesU r).length:Int))=((now.length+(bytesU r).length:Nat):Int):=by rw [wrap64 (by omega)];rfl
    have q1:now.length+(bytesU r).length≤bound:=by unfold bound;omega
    have q3:(bytesU r).length≤bound:=by unfold bound;omega
    have hb:out.length+1≤bound:=by unfold bound;omega
    have hcd:=coded2_ev H now (by omega)
    have e1:[PV.flat (.string (S (codedU enc now)))]=scells [codedU enc now]:=rfl
    by_cases h:45<now.length+(bytesU r).length
    ·have h':(45:Int)<((now.length+(bytesU r).length:Nat):Int):=by omega
     simp only [on_n09_words_0,headG,fGrp,go_sem,simprocAttr,S_size,S_app,Int.toNat_natCast,icells_len,c1,c2,w1,w2,hsc,hle,List.length_cons,hb2,h,h',hcd,he0,hb,q3,scells_len,scells_noU8,List.nil_append]
     all_goals simp only [e1,scells_app,List.length_append,List.length_cons,List.length_nil]
    ·have h':¬ (45:Int)<((now.length+(bytesU r).length:Nat):Int):=by omega
     simp only [on_n09_words_0,headG,fGrp,go_sem,simprocAttr,S_size,S_app,Int.toNat_natCast,icells_len,c1,c2,w1,w2,hsc,hle,List.length_cons,hb2,h,h',q1,scells_len]
   ·dsimp only at hi
    have c1:¬ (R.length:Int)<R.length:=by omega
    simp only [on_n09_words_0,headG,go_sem,simprocAttr,c1]
def fWr (q:Str × Nat) (_:Nat) (x:Str):(Str × Nat) ⊕ (Out × St):=.inl (stepW q x)
theorem walk_wr (fin:Str × Nat→Out × St):∀ (l:List Str) (q:Str × Nat) (k:Nat),walkL fWr fin q k l=fin (l.foldl stepW q)
 | [],q,k=>rfl
 | x::l,q,k=>by simp only [walkL,fWr,List.foldl_cons];exact walk_wr fin l _ _
def headW2 (L:List Str) (q:Str × Nat) (k:Nat):St:=⟨[(6,.flat (.string (S q.1))),(7,.flat (.int .i64 (q.2:Nat))),(8,.slc L.length (scells L)),(9,.flat (.int .i64 (k:Nat)))],[.slot 8],[],[]⟩
theorem write2_ev {enc:Str→Str} (HE:LibB64 lib enc) (H:LibR64 lib enc) (f v:Str) (hv:v.length≤10000) (hf:f.length≤10000):evW code lib 29 [.flat (.string (S f)),.flat (.string (S v))] [] [] =
 some ([.flat (.string (S (if nameU f then laidU enc f v else []))),.flat (.int .i64 (if nameU f then 0 else 1))],false,[],[]):=by
 refine evW_eq code_n09_Write (Nat.le_of_ble_eq_true rfl) ?_
 have hn:=name2_ev (lib:=lib) f (by omega)
 have he0:(⟨#[]⟩:ByteArray)=S []:=rfl
 have he1:(⟨#[58]⟩:ByteArray)=S [58]:=rfl
 have he2:(⟨#[13,10]⟩:ByteArray)=S [13,10]:=rfl
 have he3:(⟨#[32]⟩:ByteArray)=S [32]:=rfl
 cases hnm:nameU f with
 | false =>
   rw [hnm] at hn
   simp only [go_sem,simprocAttr,hn,he0,hnm]
 | true =>
   rw [hnm] at hn
   have hw:=words2_ev H v (by omega)
   have hwl:=wordsU_len HE v hv
   obtain ⟨L,hL⟩:∃ L,wordsU enc v=L:=⟨_,rfl⟩
   rw [hL] at hw hwl
   have hloop:=loop_at (body:=evC (evW code lib) big b_n09_Write_0) (live:=[6,7,8,9]) (nb:=0) (headW2 L) L (fun q k=>inW q k) fWr (fun q=>(.exit 0,⟨[(6,.flat (.string (S q.1)))],[],[],[]⟩)) (fun ⟨l,long⟩ k x hi hk hc hd=>?_) (fun _ _=>by simp only [headW2,go_sem,simprocAttr]) (fun q k x a' hi hk hx h=>by
    simp only [fWr,Sum.inl.injEq] at h;subst h
    exact stepW_in q k x hi (by omega) (hwl.2 x (List.mem_of_getElem? hx))) (fun _ _ x r h=>by simp [fWr] at h) (fun ⟨l,long⟩ hi=>?_) (fun _=>by simp) (f++[58],f.length+1) ⟨by simp only [List.length_append,List.length_cons,List.length_nil];omega,by dsimp only;omega⟩ (by unfold big;omega)
   ·rw [walk_wr] at hloop
    have hlen:=foldW_in L 0 (f++[58],f.length+1) ⟨by simp only [List.length_append,List.length_cons,List.length_nil];omega,by dsimp only;omega⟩ hwl
    obtain ⟨⟨l,long⟩,hq⟩:∃ q,L.foldl stepW (f++[58],f.length+1)=q:=⟨_,rfl⟩
    rw [hq] at hloop hlen
    dsimp only at hlen
    have hll:laidU enc f v=l++[13,10]:=by simp only [laidU,hL,hq]
    have q1:f.length+1≤bound:=by unfold bound;omega
    have q2:l.length+2≤bound:=by unfold bound;omega
    have hl1:(f++[58]).length=f.length+1:=by simp
    simp only [headW2,n0] at hloop
    simp only [go_sem,simprocAttr,hn,he0,he1,he2,hnm,S_app,S_size,List.length_cons,hl1,q1,q2,hw,hloop,hll,scells_np]
   ·obtain ⟨h1,h2⟩:=hi
    dsimp only at h1 h2
    have hxl:=hwl.2 x (List.mem_of_getElem? hc)
    have c1:(k:Int)<L.length:=by omega
    have c2:(0:Int)≤(k:Nat):=by omega
    have w1:IntKind.i64.wrap ((k:Int)+1)=((k+1:Nat):Int):=wrap64 (by omega)
    have hsc:(scells L).drop k=.flat (.string (S x))::(scells L).drop (k+1):=by simp only [scells,← List.map_drop,hd,List.map_cons]
    have hle:1≤((scells L).drop (k+1)).length+1:=by omega
    have w2:IntKind.i64.wrap ((long:Int)+1)=((long+1:Nat):Int):=wrap64 (by omega)
    have w3:IntKind.i64.wrap (((long+1:Nat):Int)+(x.length:Int))=((long+1+x.length:Nat):Int):=by rw [wrap64 (by omega)];rfl
    have w4:IntKind.i64.wrap 1=1:=by decide
    have w5:IntKind.i64.wrap (1+(x.length:Int))=((1+x.length:Nat):Int):=by rw [wrap64 (by omega)];rfl
    have q1:l.length+2≤bound:=by unfold bound;omega
    have q2:(l++[13,10]).length+1≤bound:=by unfold bound;simp only [List.length_append,List.length_cons,List.length_nil];omega
    have q3:(l++[13,10]++[32]).length+x.length≤bound:=by unfold bound;simp only [List.length_append,List.length_cons,List.length_nil];omega
    have q4:l.length+1≤bound:=by unfold bound;omega
    have q5:(l++[32]).length+x.length≤bound:=by unfold bound;simp only [List.length_append,List.length_cons,List.length_nil];omega
    by_cases h:76≤x.length+long
    ·have h':(76:Int)<((long+1+x.length:Nat):Int):=by omega
     have hlg:longer x long=true:=by simp [longer,h]
     have e1:putT l x long=l++[13,10]++[32]++x:=by simp [putT,hlg]
     have e2:putL x long=1+x.length:=by simp [putL,hlg]
     simp only [on_n09_Write_0,headW2,fWr,stepW,e1,e2,go_sem,simprocAttr,S_size,S_app,Int.toNat_natCast,scells_len,c1,c2,w1,w2,w3,w4,w5,hsc,hle,List.length_cons,h',he2,he3,q1,q2,q3]
    ·have h':¬ (76:Int)<((long+1+x.length:Nat):Int):=by omega
     have hlg:longer x long=false:=by simp [longer,h]
     have e1:putT l x long=l++[32]++x:=by simp [putT,hlg]
     have e2:putL x long=long+1+x.length:=by simp [putL,hlg];omega
     simp only [on_n09_Write_0,headW2,fWr,stepW,e1,e2,go_sem,simprocAttr,S_size,S_app,Int.toNat_natCast,scells_len,c1,c2,w1,w2,w3,hsc,hle,List.length_cons,h',he3,q4,q5]
   ·have c1:¬ (L.length:Int)<L.length:=by omega
    simp only [on_n09_Write_0,headW2,go_sem,simprocAttr,c1]
end Nun
end
section
namespace Nun
open Go Go.RowKit Go.Proofs Go.Proofs.YtmpiobfdchlikaaGreatDoor
def runS {σ ρ:Type} (step:σ→σ ⊕ ρ) (d:ρ):Nat→σ→ρ
 | 0,_=>d
 | n+1,a=>match step a with
   | .inl b=>runS step d n b
   | .inr r=>r
theorem runS_inl {σ ρ:Type} {step:σ→σ ⊕ ρ} {d:ρ} {n:Nat} {a b:σ} (h:step a=.inl b):runS step d (n+1) a=runS step d n b:=by simp only [runS,h]
theorem runS_inr {σ ρ:Type} {step:σ→σ ⊕ ρ} {d r:ρ} {n:Nat} {a:σ} (h:step a=.inr r):runS step d (n+1) a=r:=by simp only [runS,h]
theorem runS_eq {σ ρ:Type} {step:σ→σ ⊕ ρ} {d:ρ} {I:σ→Prop} {μ:σ→Nat} (h:∀ a b,I a→step a=.inl b→I b∧μ b<μ a):∀ (n m:Nat) (a:σ),I a→μ a<n→μ a<m→runS step d n a=runS step d m a
 | 0,_,_,_,h1,_=>by omega
 | _,0,_,_,_,h2=>by omega
 | n+1,m+1,a,hi,h1,h2=>by
   cases hs:step a with
   | inl b =>
     obtain ⟨k1,k2⟩:=h a b hi hs
     rw [runS_inl hs,runS_inl hs]
     exact runS_eq h n m b k1 (by omega) (by omega)
   | inr r=>rw [runS_inr hs,runS_inr hs]
theorem runS_inv {σ ρ:Type} {step:σ→σ ⊕ ρ} {d:ρ} {I:σ→Prop} {μ:σ→Nat} {Q:ρ→Prop} (h:∀ a,I a→match step a with | .inl b=>I b∧μ b<μ a | .inr r=>Q r):∀ (n:Nat) (a:σ),I a→μ a<n→Q (runS step d n a)
 | 0,_,_,h1=>by omega
 | n+1,a,hi,h1=>by
   have hs:=h a hi
   cases hk:step a with
   | inl b=>rw [hk] at hs;rw [runS_inl hk];exact runS_inv h n b hs.1 (by have:=hs.2;omega)
   | inr r=>rw [hk] at hs;rw [runS_inr hk];exact hs
def outS {σ ρ:Type} (head:σ→St) (fin:ρ→Out × St):σ ⊕ ρ→Out × St
 | .inl b=>(.normal,head b)
 | .inr r=>fin r
theorem loop_run {σ ρ:Type} {body:St→Option (Out × St)} {live:List Nat} {nb:Nat} (head:σ→St) (step:σ→σ ⊕ ρ) (d:ρ) (fin:ρ→Out × St) (I:σ→Prop) (μ:σ→Nat)
 (hr:∀ a,I a→body (head a)=some (outS head fin (step a))) (ho:∀ a,I a→(head a).only live nb=head a) (hI:∀ a b,I a→step a=.inl b→I b∧μ b<μ a) (hf:∀ r,(fin r).1≠.normal) {n:Nat} (a:σ) (hi:I a) (hn:μ a<n) (hb:μ a<big) :
 evLoop body live nb big (head a)=some (fin (runS step d n a)):=by
 have hloop:=loop_by (body:=body) (live:=live) (nb:=nb) head I μ (fun a=>fin (runS step d (μ a+1) a)) (fun a hi=>?_) (n:=big) (a:=a) hi hb
 ·rw [hloop,runS_eq hI (μ a+1) n a hi (by omega) hn]
 ·have h1:=hr a hi
  cases hs:step a with
  | inl b =>
    rw [hs] at h1
    obtain ⟨k1,k2⟩:=hI a b hi hs
    refine .inr ⟨head b,b,h1,ho b k1,k1,k2,?_⟩
    rw [runS_inl hs,runS_eq hI (μ b+1) (μ a) b k1 (by omega) (by omega)]
  | inr r =>
    rw [hs] at h1
    exact .inl ⟨(fin r).1,(fin r).2,h1,hf r,by rw [runS_inr hs]⟩
def digN (n:Nat):Nat:=if 48≤n∧n≤57 then n - 48 else if 65≤n∧n≤70 then n - 55 else if 97≤n∧n≤102 then n - 87 else 99
def numRun (base:Nat):Nat→Nat→Str→Nat × Nat
 | 0,n,_=>(n,0)
 | _+1,n,[]=>(n,0)
 | m+1,n,c::t=>if digN c.toNat<base then ((numRun base m (n * base+digN c.toNat) t).1,(numRun base m (n * base+digN c.toNat) t).2+1) else (n,0)
def numE (base most:Nat) (s:Str):Option (Str × Nat) :=
 if (numRun base most 0 s).1≠0∧isN (numRun base most 0 s).1=true∧s[(numRun base most 0 s).2]? =some 59 then some (bytesU (numRun base most 0 s).1,(numRun base most 0 s).2+1) else none
def oneE (s:Str):Option (Str × Nat) :=
 if ([38,97,109,112,59]:Str).isPrefixOf s then some ([38],5)
 else if ([38,108,116,59]:Str).isPrefixOf s then some ([60],4)
 else if ([38,103,116,59]:Str).isPrefixOf s then some ([62],4)
 else if ([38,113,117,111,116,59]:Str).isPrefixOf s then some ([34],6)
 else if ([38,35,120]:Str).isPrefixOf s then (numE 16 6 (s.drop 3)).map fun q=>(q.1,3+q.2)
 else if ([38,35]:Str).isPrefixOf s then (numE 10 7 (s.drop 2)).map fun q=>(q.1,2+q.2)
 else none
theorem numRun_len (base:Nat):∀ (m n:Nat) (s:Str),(numRun base m n s).2≤m∧(numRun base m n s).2≤s.length
 | 0,n,s=>by simp [numRun]
 | m+1,n,[]=>by simp [numRun]
 | m+1,n,c::t=>by
   have:=numRun_len base m (n * base+digN c.toNat) t
   simp only [numRun]
   split
   ·simp only [List.length_cons];omega
   ·simp
theorem pre_len {p s:Str} (h:p.isPrefixOf s=true):p.length≤s.length:=(List.isPrefixOf_iff_prefix.1 h).length_le
theorem numE_len {base most:Nat} {s:Str} {q:Str × Nat} (h:numE base most s=some q):1≤q.2∧q.2≤s.length∧q.1.length≤4:=by
 unfold numE at h
 split at h
 ·rename_i hc
  obtain ⟨_,_,h3⟩:=hc
  have:=(List.getElem?_eq_some_iff.1 h3).1
  simp only [Option.some.injEq] at h
  subst h
  exact ⟨by simp,by dsimp only;omega,bytesU_len _⟩
 ·cases h
theorem oneE_len {s:Str} {q:Str × Nat} (h:oneE s=some q):1≤q.2∧q.2≤s.length∧q.1.length≤4:=by
 unfold oneE at h
 split at h
 ·rename_i hp;have:=pre_len hp;simp only [Option.some.injEq] at h;subst h;simp at this ⊢;omega
 split at h
 ·rename_i hp;have:=pre_len hp;simp only [Option.some.injEq] at h;subst h;simp at this ⊢;omega
 split at h
 ·rename_i hp;have:=pre_len hp;simp only [Option.some.injEq] at h;subst h;simp at this ⊢;omega
 split at h
 ·rename_i hp;have:=pre_len hp;simp only [Option.some.injEq] at h;subst h;simp at this ⊢;omega
 split at h
 ·rename_i hp;have h3:=pre_len hp
  obtain ⟨q',h1,rfl⟩:=Option.map_eq_some_iff.1 h
  have:=numE_len h1
  simp only [List.length_drop,List.length_cons,List.length_nil] at this h3 ⊢;omega
 split at h
 ·rename_i hp;have h3:=pre_len hp
  obtain ⟨q',h1,rfl⟩:=Option.map_eq_some_iff.1 h
  have:=numE_len h1
  simp only [List.length_drop,List.length_cons,List.length_nil] at this h3 ⊢;omega
 ·cases h
def saysT (s:Str) (e bad:UInt8) (q:Str × Nat):(Str × Nat) ⊕ Option (Str × Nat):=match s[q.2]? with
 | none=>.inr (some q)
 | some c=>if c=e then .inr (some q) else if c=bad then .inr none else if c=38 then (match oneE (s.drop q.2) with
   | none=>.inr none
   | some (b,k)=>.inl (q.1++b,q.2+k)) else .inl (q.1++[c],q.2+1)
def saysE (s:Str) (e bad:UInt8) (at_:Nat):Option (Str × Nat):=runS (saysT s e bad) none (s.length+1) ([],at_)
theorem saysT_in {s:Str} {e bad:UInt8} (at0:Nat):∀ a b:Str × Nat,(a.2≤s.length∧at0≤a.2∧a.1.length≤4 * (a.2 - at0))→saysT s e bad a=.inl b→(b.2≤s.length∧at0≤b.2∧b.1.length≤4 * (b.2 - at0))∧s.length - b.2<s.length - a.2
 | (out,k),b,⟨h1,h2,h3⟩,h=>by
   unfold saysT at h
   dsimp only at h h1 h2 h3
   split at h
   ·cases h
   ·rename_i c hc
    have hlt:=(List.getElem?_eq_some_iff.1 hc).1
    split at h
    ·cases h
    split at h
    ·cases h
    split at h
    ·split at h
     ·cases h
     ·rename_i x n hx
      have:=oneE_len hx
      simp only [Sum.inl.injEq] at h
      subst h
      simp only [List.length_drop,List.length_append] at this ⊢
      omega
    ·simp only [Sum.inl.injEq] at h
     subst h
     simp only [List.length_append,List.length_cons,List.length_nil]
     omega
theorem saysE_len {s:Str} {e bad:UInt8} {at_:Nat} (h:at_≤s.length) {q:Str × Nat} (hq:saysE s e bad at_=some q):at_≤q.2∧q.2≤s.length∧q.1.length≤4 * s.length∧(s[q.2]? =none∨s[q.2]? =some e):=by
 have:=runS_inv (step:=saysT s e bad) (d:=none) (I:=fun a=>a.2≤s.length∧at_≤a.2∧a.1.length≤4 * (a.2 - at_)) (μ:=fun a=>s.length - a.2) (Q:=fun r=>∀ q,r=some q→at_≤q.2∧q.2≤s.length∧q.1.length≤4 * s.length∧(s[q.2]? =none∨s[q.2]? =some e)) (fun a hi=>by
  cases hs:saysT s e bad a with
  | inl b=>exact saysT_in at_ a b hi hs
  | inr r =>
    intro q hq
    subst hq
    unfold saysT at hs
    split at hs
    ·rename_i hn
     simp only [Sum.inr.injEq,Option.some.injEq] at hs
     subst hs
     exact ⟨hi.2.1,hi.1,by omega,.inl hn⟩
    ·rename_i c hc
     split at hs
     ·rename_i he
      subst he
      simp only [Sum.inr.injEq,Option.some.injEq] at hs
      subst hs
      exact ⟨hi.2.1,hi.1,by omega,.inr hc⟩
     ·split at hs
      ·simp at hs
      ·split at hs
       ·split at hs<;>simp at hs
       ·simp at hs) (s.length+1) ([],at_) ⟨h,Nat.le_refl _,by simp⟩ (by dsimp only;omega)
 exact this q hq
def letB (c:UInt8):Bool:=(decide (97≤c.toNat) && decide (c.toNat≤122)) || (decide (48≤c.toNat) && decide (c.toNat≤57))
def blankB (c:UInt8):Bool:=decide (c.toNat=32) || (decide (c.toNat=9) || decide (c.toNat=10))
def wordE (s:Str) (at_:Nat):Str:=(s.drop at_).takeWhile letB
def gapE (s:Str) (at_:Nat):Str:=(s.drop at_).takeWhile blankB
structure Att where
 name:Str
 val:Str
 fr:Nat
 to:Nat
structure Tok where
 kind:UInt8
 name:Str
 text:Str
 attrs:List Att
 fr:Nat
 to:Nat
def elemsE:List Str:=[[97],[98],[98,114],[99,111,100,101],[100,105,118],[101,109],[104,49],[104,50],[104,51],[104,114],[105],[105,109,103],[108,105],[111,108],[112],[112,114,101],[115,112,97,110],[115,116,114,111,110,103],[116,97,98,108,101],[116,98,111,100,121],[116,100],[116,104],[116,104,101,97,100],[116,114],[117],[117,108]]
def attrsE:List Str:=[[97,108,116],[99,108,97,115,115],[99,111,108,115,112,97,110],[104,114,101,102],[105,100],[114,111,119,115,112,97,110],[115,114,99],[116,105,116,108,101],[119,105,100,116,104]]
def voidE (s:Str):Bool:=decide (s=[98,114]) || (decide (s=[104,114]) || decide (s=[105,109,103]))
def attE (s:Str) (at_:Nat):Option (Att × Nat) :=
 if attrsE.contains (wordE s at_) && beginsU s [61,34] (at_+(wordE s at_).length) then (match saysE s 34 60 (at_+(wordE s at_).length+2) with
  | none=>none
  | some (v,e)=>if e<s.length then some (⟨wordE s at_,v,at_+(wordE s at_).length+2,e⟩,e+1) else none)
 else none
def openT (s:Str) (q:List Att × Nat):(List Att × Nat) ⊕ Option (List Att × Nat) :=
 if beginsU s [62] (q.2+(gapE s q.2).length) then .inr (some (q.1,q.2+(gapE s q.2).length+1))
 else match attE s (q.2+(gapE s q.2).length) with
  | none=>.inr none
  | some (a,e)=>if (gapE s q.2).length=0∨(q.1.any fun b=>decide (b.name=a.name))=true then .inr none else .inl (q.1++[a],e)
def openE (s:Str) (at_:Nat):Option (List Att × Nat):=runS (openT s) none (s.length+1) ([],at_)
def nextE (s:Str) (at_:Nat):Option Tok :=
 if beginsU s [60,47] at_ then
  (if elemsE.contains (wordE s (at_+2)) && (!voidE (wordE s (at_+2)) && beginsU s [62] (at_+2+(wordE s (at_+2)).length)) then some ⟨99,wordE s (at_+2),[],[],at_,at_+2+(wordE s (at_+2)).length+1⟩ else none)
 else if beginsU s [60] at_ then
  (if elemsE.contains (wordE s (at_+1)) then (openE s (at_+1+(wordE s (at_+1)).length)).map fun q=>⟨111,wordE s (at_+1),[],q.1,at_,q.2⟩ else none)
 else (saysE s 60 62 at_).map fun q=>⟨116,[],q.1,[],at_,q.2⟩
def tokT (s:Str) (q:List Tok × Nat):(List Tok × Nat) ⊕ Option (List Tok) :=
 if s.length≤q.2 then .inr (some q.1) else match nextE s q.2 with
  | none=>.inr none
  | some t=>.inl (q.1++[t],t.to)
def toksE (s:Str):Option (List Tok):=if isU s then runS (tokT s) none (s.length+1) ([],0) else none
end Nun
end
section
namespace Nun
open Go
theorem ilt_t {a b:Int} (h:a<b):(a<b)=True:=eq_true h
theorem ilt_f {a b:Int} (h:b≤a):(a<b)=False:=eq_false (by omega)
theorem ile_t {a b:Int} (h:a≤b):(a≤b)=True:=eq_true h
theorem ile_f {a b:Int} (h:b<a):(a≤b)=False:=eq_false (by omega)
theorem ieq_t {a b:Int} (h:a=b):(a=b)=True:=eq_true h
theorem ieq_f {a b:Int} (h:a<b∨b<a):(a=b)=False:=eq_false (by omega)
theorem nlt_t {a b:Nat} (h:a<b):(a<b)=True:=eq_true h
theorem nlt_f {a b:Nat} (h:b≤a):(a<b)=False:=eq_false (by omega)
theorem nle_t {a b:Nat} (h:a≤b):(a≤b)=True:=eq_true h
theorem nle_f {a b:Nat} (h:b<a):(a≤b)=False:=eq_false (by omega)
theorem neq_t {a b:Nat} (h:a=b):(a=b)=True:=eq_true h
theorem neq_f {a b:Nat} (h:a<b∨b<a):(a=b)=False:=eq_false (by omega)
theorem wr_64 {x:Int} (h1:-9223372036854775808≤x) (h2:x<9223372036854775808):IntKind.i64.wrap x=x:=wrap64 ⟨h1,h2⟩
theorem wr_8 {x:Int} (h1:0≤x) (h2:x<256):IntKind.u8.wrap x=x:=wrap8 ⟨h1,h2⟩
theorem wr_32 {x:Int} (h1:-2147483648≤x) (h2:x<2147483648):IntKind.i32.wrap x=x:=wrap32 ⟨h1,h2⟩
theorem u8_nat (a b:UInt8):(a=b)=(a.toNat=b.toNat):=by rw [UInt8.toNat_inj]
theorem tn_add (k m:Nat):((k:Int)+(m:Int)).toNat=k+m:=by omega
theorem tn_1 (k:Nat):((k:Int)+1).toNat=k+1:=by omega
theorem tn_2 (k:Nat):((k:Int)+2).toNat=k+2:=by omega
theorem tn_3 (k:Nat):((k:Int)+3).toNat=k+3:=by omega
theorem ile_lit {n m:Nat}:((n:Int)≤(no_index (@OfNat.ofNat Int m instOfNat)))=(n≤@OfNat.ofNat Nat m (instOfNatNat m)):=propext Int.ofNat_le
theorem ile_lil {n m:Nat}:((no_index (@OfNat.ofNat Int m instOfNat))≤(n:Int))=(@OfNat.ofNat Nat m (instOfNatNat m)≤n):=propext Int.ofNat_le
theorem ilt_lit {n m:Nat}:((n:Int)<(no_index (@OfNat.ofNat Int m instOfNat)))=(n<@OfNat.ofNat Nat m (instOfNatNat m)):=propext Int.ofNat_lt
theorem ilt_lil {n m:Nat}:((no_index (@OfNat.ofNat Int m instOfNat))<(n:Int))=(@OfNat.ofNat Nat m (instOfNatNat m)<n):=propext Int.ofNat_lt
theorem ieq_lit {n m:Nat}:((n:Int)=(no_index (@OfNat.ofNat Int m instOfNat)))=(n=@OfNat.ofNat Nat m (instOfNatNat m)):=propext Int.ofNat_inj
theorem ieq_lil {n m:Nat}:((no_index (@OfNat.ofNat Int m instOfNat))=(n:Int))=(@OfNat.ofNat Nat m (instOfNatNat m)=n):=propext Int.ofNat_inj
theorem ile_nn {n m:Nat}:((n:Int)≤(m:Int))=(n≤m):=propext Int.ofNat_le
theorem ilt_nn {n m:Nat}:((n:Int)<(m:Int))=(n<m):=propext Int.ofNat_lt
theorem ieq_nn {n m:Nat}:((n:Int)=(m:Int))=(n=m):=propext Int.ofNat_inj
end Nun
namespace Go.Proofs.YtmpiobfdchlikaaGreatDoor
open Go Nun
theorem au:(((((type_of% @ile_lit)∧((type_of% @ile_lil)∧(type_of% @ilt_lit)))∧(((type_of% @ilt_lil)∧(type_of% @ieq_lit))∧((type_of% @ieq_lil)∧(type_of% @ile_nn))))∧((((type_of% @ilt_nn)∧(type_of% @ieq_nn))∧((type_of% @ilt_t)∧(type_of% @ilt_f)))∧(((type_of% @ile_t)∧(type_of% @ile_f))∧((type_of% @ieq_t)∧(type_of% @ieq_f)))))∧(((((type_of% @nlt_t)∧(type_of% @nlt_f))∧((type_of% @nle_t)∧(type_of% @nle_f)))∧(((type_of% @neq_t)∧(type_of% @neq_f))∧((type_of% @wr_64)∧(type_of% @wr_8))))∧((((type_of% @wr_32)∧(type_of% @S_size))∧((type_of% @S_get)∧(type_of% @S_ext)))∧(((type_of% @S_app)∧(type_of% @S_eqB))∧((type_of% @mk_S)∧(type_of% @kByte_some))))))∧(((((type_of% @decide_eq_true_eq)∧((type_of% @decide_eq_false_iff_not)∧(type_of% @Int.toNat_natCast)))∧(((type_of% @tn_add)∧(type_of% @tn_1))∧((type_of% @tn_2)∧(type_of% @tn_3))))∧((((type_of% @cl_keep)∧(type_of% @cl_owns))∧((type_of% @cl_cells)∧(type_of% @cl_drop)))∧(((type_of% @cl_slots)∧(type_of% @cl_under))∧((type_of% @cl_dropC)∧(type_of% @cl_dropL)))))∧(((((type_of% @dropCs_nil)∧(type_of% @List.length_set.{0}))∧((type_of% @List.take_length.{0})∧(type_of% @List.set_set.{0})))∧(((type_of% @List.append_assoc.{0})∧(type_of% @Bool.or_true))∧((type_of% @Bool.true_or)∧(type_of% @Bool.or_false))))∧((((type_of% @Bool.false_or)∧(type_of% @Bool.cond_true.{0}))∧((type_of% @Bool.cond_false.{0})∧(type_of% @Int.natCast_add)))∧(((type_of% @Int.natCast_one)∧(type_of% @n0))∧((type_of% @n1)∧(type_of% @n2)))))) :=
 ⟨⟨⟨⟨⟨@ile_lit,⟨@ile_lil,@ilt_lit⟩⟩,⟨⟨@ilt_lil,@ieq_lit⟩,⟨@ieq_lil,@ile_nn⟩⟩⟩,⟨⟨⟨@ilt_nn,@ieq_nn⟩,⟨@ilt_t,@ilt_f⟩⟩,⟨⟨@ile_t,@ile_f⟩,⟨@ieq_t,@ieq_f⟩⟩⟩⟩,⟨⟨⟨⟨@nlt_t,@nlt_f⟩,⟨@nle_t,@nle_f⟩⟩,⟨⟨@neq_t,@neq_f⟩,⟨@wr_64,@wr_8⟩⟩⟩,⟨⟨⟨@wr_32,@S_size⟩,⟨@S_get,@S_ext⟩⟩,⟨⟨@S_app,@S_eqB⟩,⟨@mk_S,@kByte_some⟩⟩⟩⟩⟩,⟨⟨⟨⟨@decide_eq_true_eq,⟨@decide_eq_false_iff_not,@Int.toNat_natCast⟩⟩,⟨⟨@tn_add,@tn_1⟩,⟨@tn_2,@tn_3⟩⟩⟩,⟨⟨⟨@cl_keep,@cl_owns⟩,⟨@cl_cells,@cl_drop⟩⟩,⟨⟨@cl_slots,@cl_under⟩,⟨@cl_dropC,@cl_dropL⟩⟩⟩⟩,⟨⟨⟨⟨@dropCs_nil,@List.length_set.{0}⟩,⟨@List.take_length.{0},@List.set_set.{0}⟩⟩,⟨⟨@List.append_assoc.{0},@Bool.or_true⟩,⟨@Bool.true_or,@Bool.or_false⟩⟩⟩,⟨⟨⟨@Bool.false_or,@Bool.cond_true.{0}⟩,⟨@Bool.cond_false.{0},@Int.natCast_add⟩⟩,⟨⟨@Int.natCast_one,@n0⟩,⟨@n1,@n2⟩⟩⟩⟩⟩⟩
end Go.Proofs.YtmpiobfdchlikaaGreatDoor
end
section
namespace Nun
open Go Go.RowKit Go.Proofs Go.Proofs.YtmpiobfdchlikaaGreatDoor
variable {lib:Callee}
def rd (s:Str) (k:Nat):List PV:=[.flat (.string (S s)),.flat (.int .i64 (k:Nat))]
theorem wr64 {k m:Nat} (h:k+m<9223372036854775808):IntKind.i64.wrap ((k:Int)+(m:Int))=((k+m:Nat):Int):=by rw [wrap64 (by omega)];rfl
theorem wr1 {k:Nat} (h:k+1<9223372036854775808):IntKind.i64.wrap ((k:Int)+1)=((k+1:Nat):Int):=wr64 (m:=1) h
theorem done_ev {bx:Boxes} {r:List (Nat × Nat)} {b e:Nat} {s:Str} {k:Nat} (hb:bx[b]? =some (e,rd s k)) (hlt:∀ q∈r,q.1<bx.length) :
 evW code lib 107 [.ptr b 0] bx (cl r)=some ([.flat (.bool (decide (s.length≤k)))],false,bx,cl r):=by
 refine evW_eq code_tags_left_done (Nat.le_of_ble_eq_true rfl) ?_
 unfold rd at hb
 simp only [go_sem,simprocAttr,hb,cl_keep,cl_owns,cl_cells,cl_drop,cl_slots,S_size,Int.ofNat_le,cl_under r hlt]
theorem take_ev (HP:LibPre lib) {bx:Boxes} {r:List (Nat × Nat)} {b e:Nat} {s w:Str} {k:Nat} (hb:bx[b]? =some (e,rd s k)) (hs:s.length≤1000000000) (hw:w.length≤1000000000) (hk:k≤s.length) (hr:∀ q∈r,q≠(b,1)) (hlt:∀ q∈r,q.1<bx.length) :
 evW code lib 159 [.ptr b 0,.flat (.string (S w))] bx (cl r)=some ([.flat (.bool (w.isPrefixOf (s.drop k)))],false,bx.set b (e,rd s (if w.isPrefixOf (s.drop k) then k+w.length else k)),cl r):=by
 refine evW_eq code_tags_left_take (Nat.le_of_ble_eq_true rfl) ?_
 have hsame:=set_same hb
 unfold rd at hb
 have hblt:b<bx.length:=(List.getElem?_eq_some_iff.1 hb).1
 have c0:(0:Int)≤(k:Nat):=by omega
 have c1:(k:Int)≤s.length:=by omega
 have tk:(s.take s.length).drop k=s.drop k:=by rw [List.take_length]
 have hp:=pre_ev HP (s.drop k) w (by rw [List.length_drop];omega) hw
 have w1:=wr64 (k:=k) (m:=w.length) (by omega)
 cases hpr:w.isPrefixOf (s.drop k) with
 | false =>
   rw [hpr] at hp
   simp only [hsame,Bool.false_eq_true,if_false]
   simp only [go_sem,simprocAttr,hb,cl_keep,cl_owns,cl_cells,cl_drop,cl_slots,S_size,S_ext,c0,c1,tk,Int.toNat_natCast,hp,cl_under r hlt]
 | true =>
   rw [hpr] at hp
   simp only [if_true]
   simp only [go_sem,simprocAttr,hb,cl_keep,cl_owns,cl_cells,cl_drop,cl_slots,cl_dropC r hr,S_size,S_ext,c0,c1,tk,Int.toNat_natCast,hp,w1,rd,List.length_set,cl_under r hlt]
theorem letter_ev (c:UInt8):evW code lib 161 [.flat (.int .u8 c.toNat)] [] []=some ([.flat (.bool (letB c))],false,[],[]):=by
 refine evW_eq code_tags_letter (Nat.le_of_ble_eq_true rfl) ?_
 unfold letB
 obtain ⟨n,hn⟩:∃ n,c.toNat=n:=⟨_,rfl⟩
 rw [hn]
 have d1:((97:Int)≤((n:Nat):Int))=(97≤n):=by apply propext;omega
 have d2:(((n:Nat):Int)≤(122:Int))=(n≤122):=by apply propext;omega
 have d3:((48:Int)≤((n:Nat):Int))=(48≤n):=by apply propext;omega
 have d4:(((n:Nat):Int)≤(57:Int))=(n≤57):=by apply propext;omega
 rcases Classical.em (97≤n) with a1 | a1
 all_goals first | (exfalso;omega) | skip
 all_goals rcases Classical.em (n≤122) with a2 | a2
 all_goals first | (exfalso;omega) | skip
 all_goals rcases Classical.em (48≤n) with a3 | a3
 all_goals first | (exfalso;omega) | skip
 all_goals rcases Classical.em (n≤57) with a4 | a4
 all_goals first | (exfalso;omega) | skip
 all_goals
  first | have e1:=eq_false a1 | have e1:=eq_true a1
  first | have e2:=eq_false a2 | have e2:=eq_true a2
  first | have e3:=eq_false a3 | have e3:=eq_true a3
  first | have e4:=eq_false a4 | have e4:=eq_true a4
  clear a1 a2 a3 a4
 all_goals simp only [go_sem,simprocAttr,d1,d2,d3,d4,e1,e2,e3,e4,Bool.true_or,Bool.or_true,Bool.false_or,Bool.or_false]
theorem blank_ev (c:UInt8):evW code lib 195 [.flat (.int .u8 c.toNat)] [] []=some ([.flat (.bool (blankB c))],false,[],[]):=by
 refine evW_eq code_tags_blank (Nat.le_of_ble_eq_true rfl) ?_
 unfold blankB
 obtain ⟨n,hn⟩:∃ n,c.toNat=n:=⟨_,rfl⟩
 rw [hn]
 have d1:(((n:Nat):Int)=(32:Int))=(n=32):=by apply propext;omega
 have d2:(((n:Nat):Int)=(9:Int))=(n=9):=by apply propext;omega
 have d3:(((n:Nat):Int)=(10:Int))=(n=10):=by apply propext;omega
 rcases Classical.em (n=32) with a1 | a1
 all_goals first | (exfalso;omega) | skip
 all_goals rcases Classical.em (n=9) with a2 | a2
 all_goals first | (exfalso;omega) | skip
 all_goals rcases Classical.em (n=10) with a3 | a3
 all_goals first | (exfalso;omega) | skip
 all_goals
  first | have e1:=eq_false a1 | have e1:=eq_true a1
  first | have e2:=eq_false a2 | have e2:=eq_true a2
  first | have e3:=eq_false a3 | have e3:=eq_true a3
  clear a1 a2 a3
 all_goals simp only [go_sem,simprocAttr,d1,d2,d3,e1,e2,e3,Bool.true_or,Bool.or_true,Bool.false_or,Bool.or_false]
def whT (s:Str) (p:UInt8→Bool) (k:Nat):Nat ⊕ Nat:=match s[k]? with
 | some c=>if p c then .inl (k+1) else .inr k
 | none=>.inr k
theorem takeWhile_run (s:Str) (p:UInt8→Bool):∀ (n k:Nat),s.length - k<n→k≤s.length→runS (whT s p) 0 n k=k+((s.drop k).takeWhile p).length
 | 0,k,h,_=>by omega
 | n+1,k,h,hk=>by
   by_cases hlt:k<s.length
   ·have hd:s.drop k=s[k]::s.drop (k+1):=List.drop_eq_getElem_cons hlt
    have hg:s[k]? =some s[k]:=List.getElem?_eq_getElem hlt
    rw [hd,List.takeWhile_cons]
    cases hp:p s[k] with
    | true =>
      rw [runS_inl (show whT s p k=.inl (k+1) by unfold whT;rw [hg];dsimp only;rw [if_pos hp]),takeWhile_run s p n (k+1) (by omega) hlt]
      simp only [if_true,List.length_cons];omega
    | false =>
      rw [runS_inr (show whT s p k=.inr k by unfold whT;rw [hg];dsimp only;rw [if_neg (by rw [hp];simp)])]
      simp
   ·have hg:s[k]? =none:=List.getElem?_eq_none (by omega)
    rw [runS_inr (show whT s p k=.inr k by unfold whT;rw [hg]),List.drop_of_length_le (by omega)]
    simp
theorem while_ev {bx:Boxes} {r:List (Nat × Nat)} {b e f:Nat} {s:Str} {k:Nat} {p:UInt8→Bool} (hb:bx[b]? =some (e,rd s k)) (hs:s.length≤1000000000) (hk:k≤s.length) (hr:∀ q∈r,q≠(b,1)) (hlt:∀ q∈r,q.1<bx.length)
 (hfy:(f=4611686018427387904)=False) (hf:∀ c:UInt8,evW code lib f [.flat (.int .u8 c.toNat)] [] []=some ([.flat (.bool (p c))],false,[],[])) :
 evW code lib 160 [.ptr b 0,.clo f []] bx (cl r)=some ([.flat (.string (S ((s.drop k).takeWhile p)))],false,bx.set b (e,rd s (k+((s.drop k).takeWhile p).length)),cl r):=by
 refine evW_eq code_tags_left_while (Nat.le_of_ble_eq_true rfl) ?_
 have hblt:b<bx.length:=(List.getElem?_eq_some_iff.1 hb).1
 have hloop:=loop_run (body:=evC (evW code lib) big b_tags_left_while_0) (live:=[0,1,5]) (nb:=bx.length) (fun j:Nat=>(⟨[(0,.ptr b 0),(1,.clo f []),(5,.flat (.int .i64 (k:Nat)))],cl r,[],bx.set b (e,rd s j)⟩:St))
  (whT s p) 0 (fun j=>(.exit 0,⟨[(0,.ptr b 0),(5,.flat (.int .i64 (k:Nat)))],cl r,[],bx.set b (e,rd s j)⟩)) (fun j=>j≤s.length) (fun j=>s.length - j) (fun j hj=>?_) (fun j hj=>?_) (fun j i hj h=>?_) (fun j=>by simp) (n:=s.length+1) k hk (by (try dsimp only);omega) (by unfold big;(try dsimp only);omega)
 ·rw [takeWhile_run s p _ k (by omega) hk,set_same hb] at hloop
  have hn:k+((s.drop k).takeWhile p).length≤s.length:=by
   have:=(List.takeWhile_prefix p (l:=s.drop k)).length_le
   rw [List.length_drop] at this;omega
  obtain ⟨n,hnn⟩:∃ n,k+((s.drop k).takeWhile p).length=n:=⟨_,rfl⟩
  have htk:(s.take n).drop k=(s.drop k).takeWhile p:=by
   rw [← hnn,List.drop_take,Nat.add_sub_cancel_left]
   exact (List.prefix_iff_eq_take.1 (List.takeWhile_prefix p)).symm
  rw [hnn] at hloop hn ⊢
  have hb2:(bx.set b (e,rd s n))[b]? =some (e,rd s n):=List.getElem?_set_self hblt
  unfold rd at hb hb2
  have c0:(0:Int)≤(k:Nat):=by omega
  have c1:(k:Int)≤(n:Nat):=by omega
  have c2:(n:Int)≤s.length:=by omega
  have c3:(0:Int)≤(n:Nat):=by omega
  simp only [rd] at hloop ⊢
  simp only [go_sem,simprocAttr,hb,hb2,hloop,cl_keep,cl_owns,cl_cells,cl_drop,cl_slots,S_size,S_ext,c0,c1,c2,c3,htk,Int.toNat_natCast,List.length_set,cl_under r hlt]
 ·have hb2:(bx.set b (e,rd s j))[b]? =some (e,rd s j):=List.getElem?_set_self hblt
  have hd:=done_ev (lib:=lib) (r:=r) hb2 (by rw [List.length_set];exact hlt)
  have hset:∀ q,(bx.set b (e,rd s j)).set b q=bx.set b q:=fun q=>List.set_set ..
  unfold rd at hb2 hd hset ⊢
  by_cases hlt2:j<s.length
  ·have hg:s[j]? =some s[j]:=List.getElem?_eq_getElem hlt2
   obtain ⟨c,hc⟩:∃ c,s[j]=c:=⟨_,rfl⟩
   rw [hc] at hg
   have hfc:=hf c
   have c1:¬ s.length≤j:=by omega
   have c2:(0:Int)≤(j:Nat):=by omega
   have w1:=wr1 (k:=j) (by omega)
   cases hp:p c with
   | true =>
     rw [hp] at hfc
     simp only [whT,hg,hp,if_true,outS]
     simp only [on_tags_left_while_0,go_sem,simprocAttr,hb2,hd,hset,hfy,hfc,cl_keep,cl_owns,cl_cells,cl_drop,cl_slots,cl_dropC r hr,S_size,S_get,hg,kByte_some,c1,c2,w1,Int.toNat_natCast,List.length_set,cl_under r hlt]
   | false =>
     rw [hp] at hfc
     simp only [whT,hg,hp,Bool.false_eq_true,if_false,outS]
     simp only [on_tags_left_while_0,go_sem,simprocAttr,hb2,hd,hset,hfy,hfc,cl_keep,cl_owns,cl_cells,cl_drop,cl_slots,cl_dropC r hr,S_size,S_get,hg,kByte_some,c1,c2,w1,Int.toNat_natCast,List.length_set,cl_under r hlt]
  ·have hg:s[j]? =none:=List.getElem?_eq_none (by omega)
   have c1:s.length≤j:=by omega
   simp only [whT,hg,outS]
   simp only [on_tags_left_while_0,go_sem,simprocAttr,hb2,hd,cl_keep,cl_owns,cl_cells,cl_drop,cl_slots,c1,List.length_set,cl_under r hlt]
 ·simp only [go_sem,simprocAttr,cl_keep,cl_owns,List.length_set,cl_under r hlt]
 ·unfold whT at h
  split at h
  ·rename_i c hc
   have:=(List.getElem?_eq_some_iff.1 hc).1
   split at h
   ·cases h;(try dsimp only);omega
   ·cases h
  ·cases h
theorem loop_rel {η σ ρ:Type} {body:St→Option (Out × St)} {live:List Nat} {nb:Nat} (head:η→σ→St) (step:σ→σ ⊕ ρ) (d:ρ) (Q:ρ→Out→St→Prop) (I:σ→Prop) (μ:σ→Nat)
 (hr:∀ h a,I a→match step a with | .inl b=>∃ h',body (head h a)=some (.normal,head h' b) | .inr r=>∃ o s,body (head h a)=some (o,s)∧o≠.normal∧Q r o s) (ho:∀ h a,I a→(head h a).only live nb=head h a) (hI:∀ a b,I a→step a=.inl b→I b∧μ b<μ a) :
 ∀ {n m:Nat} (h:η) (a:σ),I a→μ a<n→μ a<m→∃ o s,evLoop body live nb m (head h a)=some (o,s)∧Q (runS step d n a) o s
 | n,0,h,a,hi,hn,hm=>by omega
 | 0,_,h,a,hi,hn,hm=>by omega
 | n+1,m+1,h,a,hi,hn,hm=>by
   have h1:=hr h a hi
   rw [loop_on]
   cases hs:step a with
   | inl b =>
     rw [hs] at h1
     obtain ⟨h',h1⟩:=h1
     obtain ⟨k1,k2⟩:=hI a b hi hs
     rw [h1,kLoop_n,ho h' b k1,runS_inl hs]
     exact loop_rel head step d Q I μ hr ho hI h' b k1 (by omega) (by omega)
   | inr r =>
     rw [hs] at h1
     obtain ⟨o,s,h1,h2,h3⟩:=h1
     rw [h1,runS_inr hs]
     refine ⟨o,s,?_,h3⟩
     cases o with
     | normal=>exact absurd rfl h2
     | exit i=>rfl
     | ret=>rfl
theorem take_f (HP:LibPre lib) {bx:Boxes} {r:List (Nat × Nat)} {b e:Nat} {s:Str} {k:Nat} (w:Str) (hb:bx[b]? =some (e,rd s k)) (hs:s.length≤1000000000) (hw:w.length≤1000000000) (hk:k≤s.length) (hr:∀ q∈r,q≠(b,1)) (hlt:∀ q∈r,q.1<bx.length) (h:w.isPrefixOf (s.drop k)=false) :
 evW code lib 159 [.ptr b 0,.flat (.string (S w))] bx (cl r)=some ([.flat (.bool false)],false,bx,cl r):=by
 have:=take_ev HP (w:=w) hb hs hw hk hr hlt
 rw [h,if_neg (by simp),set_same hb] at this
 exact this
theorem take_t (HP:LibPre lib) {bx:Boxes} {r:List (Nat × Nat)} {b e:Nat} {s:Str} {k:Nat} (w:Str) (hb:bx[b]? =some (e,rd s k)) (hs:s.length≤1000000000) (hw:w.length≤1000000000) (hk:k≤s.length) (hr:∀ q∈r,q≠(b,1)) (hlt:∀ q∈r,q.1<bx.length) (h:w.isPrefixOf (s.drop k)=true) :
 evW code lib 159 [.ptr b 0,.flat (.string (S w))] bx (cl r)=some ([.flat (.bool true)],false,bx.set b (e,rd s (k+w.length)),cl r):=by
 have:=take_ev HP (w:=w) hb hs hw hk hr hlt
 rw [h,if_pos rfl] at this
 exact this
theorem dig_byte (c:UInt8):if 48≤c.toNat∧c.toNat≤57 then digN c.toNat=c.toNat - 48 else if 97≤(c.toNat ||| 32)∧(c.toNat ||| 32)≤102 then digN c.toNat=(c.toNat ||| 32) - 87 else digN c.toNat=99:=by
 have:=byte_all (p:=fun n=>decide (if 48≤n∧n≤57 then digN n=n - 48 else if 97≤(n ||| 32)∧(n ||| 32)≤102 then digN n=(n ||| 32) - 87 else digN n=99)) (by decide +kernel) c
 exact of_decide_eq_true this
def numT (s:Str) (base most:Nat) (q:Nat × Nat × Nat):(Nat × Nat × Nat) ⊕ (Nat × Nat):=if q.2.1<most then (match s[q.2.2]? with
 | some c=>if digN c.toNat<base then .inl (q.1 * base+digN c.toNat,q.2.1+1,q.2.2+1) else .inr (q.1,q.2.2)
 | none=>.inr (q.1,q.2.2)) else .inr (q.1,q.2.2)
theorem numT_run (s:Str) (base most:Nat):∀ (f n many k:Nat),most - many<f→runS (numT s base most) (0,0) f (n,many,k)=((numRun base (most - many) n (s.drop k)).1,k+(numRun base (most - many) n (s.drop k)).2)
 | 0,n,many,k,h=>by omega
 | f+1,n,many,k,h=>by
   by_cases hm:many<most
   ·obtain ⟨j,hj⟩:∃ j,most - many=j+1:=⟨most - many - 1,by omega⟩
    have hj2:most - (many+1)=j:=by omega
    rw [hj]
    by_cases hk:k<s.length
    ·have hd:s.drop k=s[k]::s.drop (k+1):=List.drop_eq_getElem_cons hk
     have hg:s[k]? =some s[k]:=List.getElem?_eq_getElem hk
     rw [hd]
     by_cases hb:digN s[k].toNat<base
     ·rw [runS_inl (show numT s base most (n,many,k)=.inl (n * base+digN s[k].toNat,many+1,k+1) by unfold numT;dsimp only;rw [if_pos hm,hg];dsimp only;rw [if_pos hb]),numT_run s base most f _ _ _ (by omega),hj2]
      simp only [numRun,hb,if_true]
      rw [Nat.add_assoc,Nat.add_comm 1]
     ·rw [runS_inr (show numT s base most (n,many,k)=.inr (n,k) by unfold numT;dsimp only;rw [if_pos hm,hg];dsimp only;rw [if_neg hb])]
      simp only [numRun,hb,if_false,Nat.add_zero]
    ·have hg:s[k]? =none:=List.getElem?_eq_none (by omega)
     rw [runS_inr (show numT s base most (n,many,k)=.inr (n,k) by unfold numT;dsimp only;rw [if_pos hm,hg]),List.drop_of_length_le (by omega)]
     simp only [numRun,Nat.add_zero]
   ·have:most - many=0:=by omega
    rw [this,runS_inr (show numT s base most (n,many,k)=.inr (n,k) by unfold numT;rw [if_neg hm])]
    simp only [numRun,Nat.add_zero]
theorem dec_bytes (n:Nat):(decU (bytesU n)).1=if isN n then n else 65533:=by
 unfold bytesU
 have h:isN (if isN n then n else 65533)=true:=by
  cases hn:isN n with
  | true=>simpa using hn
  | false=>rw [if_neg (by simp)];decide
 have:=dec_of _ h []
 rw [List.append_nil] at this
 rw [this]
theorem pow_le (m:Nat) (h:m≤7):16 ^ m≤268435456:=Nat.le_trans (Nat.pow_le_pow_right (by omega) h) (by decide)
theorem number_ev (HP:LibPre lib) {bx:Boxes} {r:List (Nat × Nat)} {b e:Nat} {s:Str} {k base most:Nat} (hb:bx[b]? =some (e,rd s k)) (hs:s.length≤1000000000) (hk:k≤s.length) (hr:∀ q∈r,q≠(b,1)) (hlt:∀ q∈r,q.1<bx.length) (hbase:base=16∨base=10) (hmost:most≤7) :
 match numE base most (s.drop k) with
 | some (x,c)=>evW code lib 224 [.ptr b 0,.flat (.int .i64 (base:Nat)),.flat (.int .i64 (most:Nat))] bx (cl r)=some ([.flat (.string (S x)),.flat (.bool true)],false,bx.set b (e,rd s (k+c)),cl r)
 | none=>∃ k',k'≤s.length∧evW code lib 224 [.ptr b 0,.flat (.int .i64 (base:Nat)),.flat (.int .i64 (most:Nat))] bx (cl r)=some ([.flat (.string (S [])),.flat (.bool false)],false,bx.set b (e,rd s k'),cl r):=by
 have hblt:b<bx.length:=(List.getElem?_eq_some_iff.1 hb).1
 have hloop:=loop_run (body:=evC (evW code lib) big b_tags_reader_number_0) (live:=[0,1,2,8,9]) (nb:=bx.length) (fun q:Nat × Nat × Nat=>(⟨[(0,.ptr b 0),(1,.flat (.int .i64 (base:Nat))),(2,.flat (.int .i64 (most:Nat))),(8,.flat (.int .i64 (q.1:Nat))),(9,.flat (.int .i64 (q.2.1:Nat)))],cl r,[],bx.set b (e,rd s q.2.2)⟩:St))
  (numT s base most) (0,0) (fun q=>(.exit 0,⟨[(0,.ptr b 0),(8,.flat (.int .i64 (q.1:Nat)))],cl r,[],bx.set b (e,rd s q.2)⟩)) (fun q=>q.2.2≤s.length∧q.2.1≤most∧q.1+1≤16 ^ q.2.1) (fun q=>most - q.2.1) (fun ⟨n,many,j⟩ hj=>?_) (fun q hj=>?_) (fun ⟨n,many,j⟩ i hj h=>?_) (fun j=>by simp) (n:=most+1) (0,0,k) ⟨hk,by simp,by simp⟩ (by (try dsimp only);omega) (by unfold big;(try dsimp only);omega)
 ·rw [numT_run s base most _ _ _ _ (by omega)] at hloop
  have hlen:=numRun_len base most 0 (s.drop k)
  have hinv:=runS_inv (step:=numT s base most) (d:=(0,0)) (I:=fun q=>q.2.2≤s.length∧q.2.1≤most∧q.1+1≤16 ^ q.2.1) (μ:=fun q=>most - q.2.1) (Q:=fun r=>r.1<268435456) (fun ⟨n,many,j⟩ hi=>by
   cases hst:numT s base most (n,many,j) with
   | inl c =>
     obtain ⟨h1,h2,h3⟩:=hi
     unfold numT at hst
     dsimp only at hst h1 h2 h3
     split at hst
     ·split at hst
      ·rename_i c hc
       have:=(List.getElem?_eq_some_iff.1 hc).1
       split at hst
       ·rename_i hdg
        cases hst
        refine ⟨⟨by (try dsimp only);omega,by (try dsimp only);omega,?_⟩,by (try dsimp only);omega⟩
        dsimp only
        rw [Nat.pow_succ]
        obtain ⟨p,hp⟩:∃ p,16 ^ many=p:=⟨_,rfl⟩
        rw [hp] at h3 ⊢
        rcases hbase with rfl | rfl<;>omega
       ·cases hst
      ·cases hst
     ·cases hst
   | inr q =>
     obtain ⟨h1,h2,h3⟩:=hi
     have:=pow_le many (by dsimp only at h2;omega)
     unfold numT at hst
     dsimp only at hst h1 h2 h3
     split at hst
     ·split at hst
      ·split at hst
       ·cases hst
       ·cases hst;dsimp only;omega
      ·cases hst;dsimp only;omega
     ·cases hst;dsimp only;omega) (most+1) (0,0,k) ⟨hk,by simp,by simp⟩ (by (try dsimp only);omega)
  rw [numT_run s base most _ _ _ _ (by omega)] at hinv
  simp only [Nat.sub_zero] at hloop hinv
  rw [List.length_drop] at hlen
  unfold numE
  obtain ⟨⟨n,cnt⟩,hq⟩:∃ q,numRun base most 0 (s.drop k)=q:=⟨_,rfl⟩
  rw [hq] at hloop hlen hinv ⊢
  dsimp only at hloop hlen hinv ⊢
  have hb2:(bx.set b (e,rd s (k+cnt)))[b]? =some (e,rd s (k+cnt)):=List.getElem?_set_self hblt
  have hlt2:∀ q∈r,q.1<(bx.set b (e,rd s (k+cnt))).length:=by rw [List.length_set];exact hlt
  have hset:∀ q,(bx.set b (e,rd s (k+cnt))).set b q=bx.set b q:=fun q=>List.set_set ..
  have w1:IntKind.i32.wrap (n:Int)=(n:Int):=wrap32 (by omega)
  have hbs:=bytes_ev (lib:=lib) n (by omega)
  have hbl:=bytesU_len n
  have hnx:=next_ev (lib:=lib) (bytesU n) (by unfold Sm;omega) 0 (Nat.zero_le _)
  have w2:IntKind.i64.wrap (((decU (bytesU n)).1:Nat):Int)=(((decU (bytesU n)).1:Nat):Int):=wrap64 (by have:=decU_num (bytesU n);omega)
  have hdb:=dec_bytes n
  have hn0:((n:Int)=0)=(n=0):=by rw [← Int.ofNat_zero,Int.ofNat_inj]
  have hg59:(s.drop k)[cnt]? =(s.drop (k+cnt))[0]? :=by rw [List.getElem?_drop,List.getElem?_drop,Nat.add_zero]
  rw [set_same hb] at hloop
  simp only [n0] at hloop
  by_cases h0:n=0
  ·subst h0
   rw [if_neg (fun h=>h.1 rfl)]
   refine ⟨k+cnt,by omega,?_⟩
   refine evW_eq code_tags_reader_number (Nat.le_of_ble_eq_true rfl) ?_
   simp only [n0] at hloop w1 hbs
   simp only [List.drop_zero,n0] at hnx
   simp only [go_sem,simprocAttr,mk_S,hloop,w1,hbs,hnx,cl_keep,cl_owns,cl_cells,cl_drop,cl_slots,cl_under r hlt,List.length_set]
  ·have h0':=eq_false h0
   simp only [List.drop_zero,n0] at hnx
   cases hN:isN n with
   | false =>
     rw [hN] at hdb
     simp only [Bool.false_eq_true,if_false] at hdb
     have hne:¬ (65533:Int)=(n:Int):=fun h=>by
      have:n=65533:=by omega
      rw [this] at hN
      exact absurd hN (by decide)
     rw [if_neg (fun h=>by cases h.2.1)]
     refine ⟨k+cnt,by omega,?_⟩
     refine evW_eq code_tags_reader_number (Nat.le_of_ble_eq_true rfl) ?_
     rw [hdb] at hnx w2
     have w3:IntKind.i64.wrap 65533=65533:=by decide
     simp only [go_sem,simprocAttr,mk_S,hloop,w1,hbs,hnx,w3,hn0,h0',hne,cl_keep,cl_owns,cl_cells,cl_drop,cl_slots,cl_under r hlt,List.length_set]
   | true =>
     rw [hN] at hdb
     simp only [if_true] at hdb
     rw [hdb] at hnx w2
     by_cases h59:(s.drop k)[cnt]? =some 59
     ·rw [if_pos ⟨h0,rfl,h59⟩]
      have hpre:([59]:Str).isPrefixOf (s.drop (k+cnt))=true:=by
       rw [hg59] at h59
       cases hdp:s.drop (k+cnt) with
       | nil=>rw [hdp] at h59;cases h59
       | cons a t=>rw [hdp] at h59;simp at h59;subst h59;simp
      have ht:=take_t (lib:=lib) HP [59] hb2 hs (by simp) (by omega) hr hlt2 hpre
      rw [hset] at ht
      refine evW_eq code_tags_reader_number (Nat.le_of_ble_eq_true rfl) ?_
      simp only [List.length_cons,List.length_nil,Nat.zero_add,Nat.add_assoc] at ht
      simp only [go_sem,simprocAttr,mk_S,hloop,w1,hbs,hnx,w2,hn0,h0',ht,cl_keep,cl_owns,cl_cells,cl_drop,cl_slots,cl_under r hlt,List.length_set,dropCs_nil]
     ·rw [if_neg (fun h=>h59 h.2.2)]
      have hpre:([59]:Str).isPrefixOf (s.drop (k+cnt))=false:=by
       rw [hg59] at h59
       cases hdp:s.drop (k+cnt) with
       | nil=>rfl
       | cons a t =>
         rw [hdp] at h59
         simp only [List.getElem?_cons_zero,Option.some.injEq] at h59
         simp only [List.isPrefixOf,Bool.and_true,beq_eq_false_iff_ne,ne_eq]
         exact fun h=>h59 h.symm
      have ht:=take_f (lib:=lib) HP [59] hb2 hs (by simp) (by omega) hr hlt2 hpre
      refine ⟨k+cnt,by omega,?_⟩
      refine evW_eq code_tags_reader_number (Nat.le_of_ble_eq_true rfl) ?_
      simp only [go_sem,simprocAttr,mk_S,hloop,w1,hbs,hnx,w2,hn0,h0',ht,cl_keep,cl_owns,cl_cells,cl_drop,cl_slots,cl_under r hlt,List.length_set,dropCs_nil]
 ·
  obtain ⟨hj1,hj2,hj3⟩:=hj
  dsimp only at hj1 hj2 hj3
  have hb2:(bx.set b (e,rd s j))[b]? =some (e,rd s j):=List.getElem?_set_self hblt
  have hlt2:∀ q∈r,q.1<(bx.set b (e,rd s j)).length:=by rw [List.length_set];exact hlt
  have hset:∀ q,(bx.set b (e,rd s j)).set b q=bx.set b q:=fun q=>List.set_set ..
  have hdn:=done_ev (lib:=lib) (r:=r) hb2 hlt2
  have hpw:=pow_le many (by omega)
  unfold numT
  dsimp only
  unfold rd at hb2 hdn hset ⊢
  by_cases hlt1:j<s.length
  ·have hg:s[j]? =some s[j]:=List.getElem?_eq_getElem hlt1
   obtain ⟨c,hc⟩:∃ c,s[j]=c:=⟨_,rfl⟩
   rw [hc] at hg
   have c1:¬ s.length≤j:=by omega
   have c2:(0:Int)≤(j:Nat):=by omega
   by_cases hm:many<most
   ·have c3:(many:Int)<most:=by omega
    have hdb:=dig_byte c
    have hc256:=c.toNat_lt
    obtain ⟨x,hx⟩:∃ x,c.toNat=x:=⟨_,rfl⟩
    have hor:=u8_or x 32 (by omega) (by omega)
    have hor256:(x ||| 32)<256:=Nat.or_lt_two_pow (n:=8) (by omega) (by omega)
    have e32:((32:Nat):Int)=32:=rfl
    rw [e32] at hor
    rw [hx] at hdb
    obtain ⟨y,hy⟩:∃ y,(x ||| 32)=y:=⟨_,rfl⟩
    rw [hy] at hor hdb hor256
    obtain ⟨dg,hdg⟩:∃ dg,digN x=dg:=⟨_,rfl⟩
    rw [hdg] at hdb
    have w1:=wr1 (k:=j) (by omega)
    have w2:=wr1 (k:=many) (by omega)
    have hexit:∀ z:Int,(base:Int)≤z→((base:Int)≤z)=True:=fun z h=>eq_true h
    rcases (show (48≤x∧x≤57∧dg=x - 48)∨(¬ (48≤x∧x≤57)∧97≤y∧y≤102∧dg=y - 87)∨(¬ (48≤x∧x≤57)∧¬ (97≤y∧y≤102)∧dg=99) by
     by_cases p1:48≤x∧x≤57
     ·rw [if_pos p1] at hdb;exact .inl ⟨p1.1,p1.2,hdb⟩
     ·rw [if_neg p1] at hdb
      by_cases p2:97≤y∧y≤102
      ·rw [if_pos p2] at hdb;exact .inr (.inl ⟨p1,p2.1,p2.2,hdb⟩)
      ·rw [if_neg p2] at hdb;exact .inr (.inr ⟨p1,p2,hdb⟩)) with ⟨p1,p2,p3⟩ | ⟨p1,p2,p3,p4⟩ | ⟨p1,p2,p3⟩
    ·have d1:(48:Int)≤(x:Nat):=by omega
     have d2:((x:Nat):Int)≤57:=by omega
     have w3:IntKind.u8.wrap ((x:Int) - 48)=((dg:Nat):Int):=by rw [wrap8 (by omega)];omega
     have w4:IntKind.i64.wrap ((dg:Nat):Int)=((dg:Nat):Int):=wrap64 (by omega)
     by_cases hbd:dg<base
     ·have d3:¬ (base:Int)≤(dg:Nat):=by omega
      have w5:IntKind.i64.wrap ((n:Int) * (base:Int))=((n * base:Nat):Int):=by rw [wrap64 (by rcases hbase with rfl | rfl<;>omega)];rfl
      have w6:IntKind.i64.wrap (((n * base:Nat):Int)+(dg:Int))=((n * base+dg:Nat):Int):=wr64 (by rcases hbase with rfl | rfl<;>omega)
      simp only [hm,hg,hx,hdg,hbd,if_true,outS]
      simp only [on_tags_reader_number_0,go_sem,simprocAttr,hb2,hdn,hset,hx,cl_keep,cl_owns,cl_cells,cl_drop,cl_slots,cl_dropC r hr,S_size,S_get,hg,kByte_some,c1,c2,c3,d1,d2,d3,w1,w2,w3,w4,w5,w6,Int.toNat_natCast,List.length_set,cl_under r hlt,dropCs_nil]
     ·have d3:(base:Int)≤(dg:Nat):=by omega
      simp only [hm,hg,hx,hdg,hbd,if_true,if_false,outS]
      simp only [on_tags_reader_number_0,go_sem,simprocAttr,hb2,hdn,hset,hx,cl_keep,cl_owns,cl_cells,cl_drop,cl_slots,cl_dropC r hr,S_size,S_get,hg,kByte_some,c1,c2,c3,d1,d2,d3,w1,w2,w3,w4,Int.toNat_natCast,List.length_set,cl_under r hlt,dropCs_nil]
    ·have d5:(97:Int)≤(y:Nat):=by omega
     have d6:((y:Nat):Int)≤102:=by omega
     have w3:IntKind.u8.wrap ((y:Int) - 97)=((y - 97:Nat):Int):=by rw [wrap8 (by omega)];omega
     have w4:IntKind.i64.wrap ((y - 97:Nat):Int)=((y - 97:Nat):Int):=wrap64 (by omega)
     have w7:IntKind.i64.wrap (((y - 97:Nat):Int)+10)=((dg:Nat):Int):=by rw [wrap64 (by omega)];omega
     have hno:(if (48:Int)≤(x:Nat) then decide (((x:Nat):Int)≤57) else false)=false:=by
      split
      ·simp;omega
      ·rfl
     by_cases h48:(48:Int)≤(x:Nat)
     ·have d2:¬ ((x:Nat):Int)≤57:=by omega
      by_cases hbd:dg<base
      ·have d3:¬ (base:Int)≤(dg:Nat):=by omega
       have w5:IntKind.i64.wrap ((n:Int) * (base:Int))=((n * base:Nat):Int):=by rw [wrap64 (by rcases hbase with rfl | rfl<;>omega)];rfl
       have w6:IntKind.i64.wrap (((n * base:Nat):Int)+(dg:Int))=((n * base+dg:Nat):Int):=wr64 (by rcases hbase with rfl | rfl<;>omega)
       simp only [hm,hg,hx,hdg,hbd,if_true,outS]
       simp only [on_tags_reader_number_0,go_sem,simprocAttr,hb2,hdn,hset,hx,hor,cl_keep,cl_owns,cl_cells,cl_drop,cl_slots,cl_dropC r hr,S_size,S_get,hg,kByte_some,c1,c2,c3,h48,d2,d3,d5,d6,w1,w2,w3,w4,w5,w6,w7,Int.toNat_natCast,List.length_set,cl_under r hlt,dropCs_nil]
      ·have d3:(base:Int)≤(dg:Nat):=by omega
       simp only [hm,hg,hx,hdg,hbd,if_true,if_false,outS]
       simp only [on_tags_reader_number_0,go_sem,simprocAttr,hb2,hdn,hset,hx,hor,cl_keep,cl_owns,cl_cells,cl_drop,cl_slots,cl_dropC r hr,S_size,S_get,hg,kByte_some,c1,c2,c3,h48,d2,d3,d5,d6,w1,w2,w3,w4,w7,Int.toNat_natCast,List.length_set,cl_under r hlt,dropCs_nil]
     ·by_cases hbd:dg<base
      ·have d3:¬ (base:Int)≤(dg:Nat):=by omega
       have w5:IntKind.i64.wrap ((n:Int) * (base:Int))=((n * base:Nat):Int):=by rw [wrap64 (by rcases hbase with rfl | rfl<;>omega)];rfl
       have w6:IntKind.i64.wrap (((n * base:Nat):Int)+(dg:Int))=((n * base+dg:Nat):Int):=wr64 (by rcases hbase with rfl | rfl<;>omega)
       simp only [hm,hg,hx,hdg,hbd,if_true,outS]
       simp only [on_tags_reader_number_0,go_sem,simprocAttr,hb2,hdn,hset,hx,hor,cl_keep,cl_owns,cl_cells,cl_drop,cl_slots,cl_dropC r hr,S_size,S_get,hg,kByte_some,c1,c2,c3,h48,d3,d5,d6,w1,w2,w3,w4,w5,w6,w7,Int.toNat_natCast,List.length_set,cl_under r hlt,dropCs_nil]
      ·have d3:(base:Int)≤(dg:Nat):=by omega
       simp only [hm,hg,hx,hdg,hbd,if_true,if_false,outS]
       simp only [on_tags_reader_number_0,go_sem,simprocAttr,hb2,hdn,hset,hx,hor,cl_keep,cl_owns,cl_cells,cl_drop,cl_slots,cl_dropC r hr,S_size,S_get,hg,kByte_some,c1,c2,c3,h48,d3,d5,d6,w1,w2,w3,w4,w7,Int.toNat_natCast,List.length_set,cl_under r hlt,dropCs_nil]
    ·have hbd:¬ dg<base:=by rcases hbase with rfl | rfl<;>omega
     have d3:(base:Int)≤(base:Int):=Int.le_refl _
     have hge:((base:Int)≤base)=True:=eq_true d3
     simp only [hm,hg,hx,hdg,hbd,if_true,if_false,outS]
     by_cases h48:(48:Int)≤(x:Nat)<;>by_cases h97:(97:Int)≤(y:Nat)
     ·have d2:¬ ((x:Nat):Int)≤57:=by omega
      have d6:¬ ((y:Nat):Int)≤102:=by omega
      simp only [on_tags_reader_number_0,go_sem,simprocAttr,hb2,hdn,hset,hx,hor,cl_keep,cl_owns,cl_cells,cl_drop,cl_slots,cl_dropC r hr,S_size,S_get,hg,kByte_some,c1,c2,c3,h48,h97,d2,d6,hge,w1,w2,Int.toNat_natCast,List.length_set,cl_under r hlt,dropCs_nil]
     ·have d2:¬ ((x:Nat):Int)≤57:=by omega
      simp only [on_tags_reader_number_0,go_sem,simprocAttr,hb2,hdn,hset,hx,hor,cl_keep,cl_owns,cl_cells,cl_drop,cl_slots,cl_dropC r hr,S_size,S_get,hg,kByte_some,c1,c2,c3,h48,h97,d2,hge,w1,w2,Int.toNat_natCast,List.length_set,cl_under r hlt,dropCs_nil]
     ·have d6:¬ ((y:Nat):Int)≤102:=by omega
      simp only [on_tags_reader_number_0,go_sem,simprocAttr,hb2,hdn,hset,hx,hor,cl_keep,cl_owns,cl_cells,cl_drop,cl_slots,cl_dropC r hr,S_size,S_get,hg,kByte_some,c1,c2,c3,h48,h97,d6,hge,w1,w2,Int.toNat_natCast,List.length_set,cl_under r hlt,dropCs_nil]
     ·simp only [on_tags_reader_number_0,go_sem,simprocAttr,hb2,hdn,hset,hx,hor,cl_keep,cl_owns,cl_cells,cl_drop,cl_slots,cl_dropC r hr,S_size,S_get,hg,kByte_some,c1,c2,c3,h48,h97,hge,w1,w2,Int.toNat_natCast,List.length_set,cl_under r hlt,dropCs_nil]
   ·have c3:¬ (many:Int)<most:=by omega
    simp only [hm,if_false,outS]
    simp only [on_tags_reader_number_0,go_sem,simprocAttr,hb2,hdn,cl_keep,cl_owns,cl_cells,cl_drop,cl_slots,c1,c3,List.length_set,cl_under r hlt,dropCs_nil]
  ·have hg:s[j]? =none:=List.getElem?_eq_none (by omega)
   have c1:s.length≤j:=by omega
   have hif:(if many<most then (Sum.inr (n,j):(Nat × Nat × Nat) ⊕ (Nat × Nat)) else .inr (n,j))=.inr (n,j):=by split<;>rfl
   simp only [hg,hif,outS]
   simp only [on_tags_reader_number_0,go_sem,simprocAttr,hb2,hdn,cl_keep,cl_owns,cl_cells,cl_drop,cl_slots,c1,List.length_set,cl_under r hlt,dropCs_nil]
 ·simp only [go_sem,simprocAttr,cl_keep,cl_owns,List.length_set,cl_under r hlt]
 ·obtain ⟨h1,h2,h3⟩:=hj
  unfold numT at h
  dsimp only at h h1 h2 h3
  split at h
  ·split at h
   ·rename_i c hc
    have:=(List.getElem?_eq_some_iff.1 hc).1
    split at h
    ·rename_i hdg
     cases h
     refine ⟨⟨by (try dsimp only);omega,by (try dsimp only);omega,?_⟩,by (try dsimp only);omega⟩
     dsimp only
     rw [Nat.pow_succ]
     obtain ⟨p,hp⟩:∃ p,16 ^ many=p:=⟨_,rfl⟩
     rw [hp] at h3 ⊢
     rcases hbase with rfl | rfl<;>omega
    ·cases h
   ·cases h
  ·cases h
theorem reference_ev (HP:LibPre lib) {bx:Boxes} {r:List (Nat × Nat)} {b e:Nat} {s:Str} {k:Nat} (hb:bx[b]? =some (e,rd s k)) (hs:s.length≤1000000000) (hk:k≤s.length) (hr:∀ q∈r,q≠(b,1)) (hlt:∀ q∈r,q.1<bx.length) :
 match oneE (s.drop k) with
 | some (x,c)=>evW code lib 199 [.ptr b 0] bx (cl r)=some ([.flat (.string (S x)),.flat (.bool true)],false,bx.set b (e,rd s (k+c)),cl r)
 | none=>∃ k',k'≤s.length∧evW code lib 199 [.ptr b 0] bx (cl r)=some ([.flat (.string (S [])),.flat (.bool false)],false,bx.set b (e,rd s k'),cl r):=by
 have hblt:b<bx.length:=(List.getElem?_eq_some_iff.1 hb).1
 have tt:∀ w:Str,w.length≤10→w.isPrefixOf (s.drop k)=true→evW code lib 159 [.ptr b 0,.flat (.string (S w))] bx (cl r)=some ([.flat (.bool true)],false,bx.set b (e,rd s (k+w.length)),cl r):=fun w hw h=>take_t HP w hb hs (by omega) hk hr hlt h
 have tf:∀ w:Str,w.length≤10→w.isPrefixOf (s.drop k)=false→evW code lib 159 [.ptr b 0,.flat (.string (S w))] bx (cl r)=some ([.flat (.bool false)],false,bx,cl r):=fun w hw h=>take_f HP w hb hs (by omega) hk hr hlt h
 have num:∀ (w:Str) (base most:Nat),base=16∨base=10→most≤7→w.isPrefixOf (s.drop k)=true→match numE base most (s.drop (k+w.length)) with
  | some (x,c)=>evW code lib 224 [.ptr b 0,.flat (.int .i64 (base:Nat)),.flat (.int .i64 (most:Nat))] (bx.set b (e,rd s (k+w.length))) (cl r)=some ([.flat (.string (S x)),.flat (.bool true)],false,bx.set b (e,rd s (k+w.length+c)),cl r)
  | none=>∃ k',k'≤s.length∧evW code lib 224 [.ptr b 0,.flat (.int .i64 (base:Nat)),.flat (.int .i64 (most:Nat))] (bx.set b (e,rd s (k+w.length))) (cl r)=some ([.flat (.string (S [])),.flat (.bool false)],false,bx.set b (e,rd s k'),cl r):=fun w base most h1 h2 h3=>by
  have hl:=pre_len h3
  rw [List.length_drop] at hl
  have:=number_ev (lib:=lib) HP (bx:=bx.set b (e,rd s (k+w.length))) (r:=r) (b:=b) (e:=e) (s:=s) (k:=k+w.length) (base:=base) (most:=most) (List.getElem?_set_self hblt) hs (by omega) hr (by rw [List.length_set];exact hlt) h1 h2
  simp only [List.set_set] at this
  exact this
 have hsame:=set_same hb
 unfold oneE
 cases h1:([38,97,109,112,59]:Str).isPrefixOf (s.drop k) with
 | true =>
   have t1:=tt _ (by decide) h1
   rw [if_pos rfl]
   refine evW_eq code_tags_reader_reference (Nat.le_of_ble_eq_true rfl) ?_
   simp only [List.length_cons,List.length_nil,Nat.zero_add] at t1
   simp only [go_sem,simprocAttr,mk_S,t1,cl_keep,cl_owns,cl_cells,cl_drop,cl_slots,cl_under r hlt,List.length_set,dropCs_nil]
 | false =>
 have t1:=tf _ (by decide) h1
 rw [if_neg (by simp)]
 cases h2:([38,108,116,59]:Str).isPrefixOf (s.drop k) with
 | true =>
   have t2:=tt _ (by decide) h2
   rw [if_pos rfl]
   refine evW_eq code_tags_reader_reference (Nat.le_of_ble_eq_true rfl) ?_
   simp only [List.length_cons,List.length_nil,Nat.zero_add] at t2
   simp only [go_sem,simprocAttr,mk_S,t1,t2,cl_keep,cl_owns,cl_cells,cl_drop,cl_slots,cl_under r hlt,List.length_set,dropCs_nil]
 | false =>
 have t2:=tf _ (by decide) h2
 rw [if_neg (by simp)]
 cases h3:([38,103,116,59]:Str).isPrefixOf (s.drop k) with
 | true =>
   have t3:=tt _ (by decide) h3
   rw [if_pos rfl]
   refine evW_eq code_tags_reader_reference (Nat.le_of_ble_eq_true rfl) ?_
   simp only [List.length_cons,List.length_nil,Nat.zero_add] at t3
   simp only [go_sem,simprocAttr,mk_S,t1,t2,t3,cl_keep,cl_owns,cl_cells,cl_drop,cl_slots,cl_under r hlt,List.length_set,dropCs_nil]
 | false =>
 have t3:=tf _ (by decide) h3
 rw [if_neg (by simp)]
 cases h4:([38,113,117,111,116,59]:Str).isPrefixOf (s.drop k) with
 | true =>
   have t4:=tt _ (by decide) h4
   rw [if_pos rfl]
   refine evW_eq code_tags_reader_reference (Nat.le_of_ble_eq_true rfl) ?_
   simp only [List.length_cons,List.length_nil,Nat.zero_add] at t4
   simp only [go_sem,simprocAttr,mk_S,t1,t2,t3,t4,cl_keep,cl_owns,cl_cells,cl_drop,cl_slots,cl_under r hlt,List.length_set,dropCs_nil]
 | false =>
 have t4:=tf _ (by decide) h4
 rw [if_neg (by simp)]
 cases h5:([38,35,120]:Str).isPrefixOf (s.drop k) with
 | true =>
   have t5:=tt _ (by decide) h5
   have n5:=num _ 16 6 (.inl rfl) (by decide) h5
   rw [if_pos rfl]
   simp only [List.length_cons,List.length_nil,Nat.zero_add,Nat.reduceAdd,Int.cast_ofNat_Int] at t5 n5
   rw [List.drop_drop]
   cases hE:numE 16 6 (s.drop (k+3)) with
   | some q =>
     obtain ⟨x,c⟩:=q
     rw [hE] at n5
     simp only [Option.map_some]
     rw [show k+(3+c)=k+3+c by omega]
     refine evW_eq code_tags_reader_reference (Nat.le_of_ble_eq_true rfl) ?_
     simp only [go_sem,simprocAttr,mk_S,t1,t2,t3,t4,t5,n5,cl_keep,cl_owns,cl_cells,cl_drop,cl_slots,cl_under r hlt,List.length_set,dropCs_nil]
   | none =>
     rw [hE] at n5
     obtain ⟨k',hk',n5⟩:=n5
     simp only [Option.map_none]
     refine ⟨k',hk',?_⟩
     refine evW_eq code_tags_reader_reference (Nat.le_of_ble_eq_true rfl) ?_
     simp only [go_sem,simprocAttr,mk_S,t1,t2,t3,t4,t5,n5,cl_keep,cl_owns,cl_cells,cl_drop,cl_slots,cl_under r hlt,List.length_set,dropCs_nil]
 | false =>
 have t5:=tf _ (by decide) h5
 rw [if_neg (by simp)]
 cases h6:([38,35]:Str).isPrefixOf (s.drop k) with
 | true =>
   have t6:=tt _ (by decide) h6
   have n6:=num _ 10 7 (.inr rfl) (by decide) h6
   rw [if_pos rfl]
   simp only [List.length_cons,List.length_nil,Nat.zero_add,Nat.reduceAdd,Int.cast_ofNat_Int] at t6 n6
   rw [List.drop_drop]
   cases hE:numE 10 7 (s.drop (k+2)) with
   | some q =>
     obtain ⟨x,c⟩:=q
     rw [hE] at n6
     simp only [Option.map_some]
     rw [show k+(2+c)=k+2+c by omega]
     refine evW_eq code_tags_reader_reference (Nat.le_of_ble_eq_true rfl) ?_
     simp only [go_sem,simprocAttr,mk_S,t1,t2,t3,t4,t5,t6,n6,cl_keep,cl_owns,cl_cells,cl_drop,cl_slots,cl_under r hlt,List.length_set,dropCs_nil]
   | none =>
     rw [hE] at n6
     obtain ⟨k',hk',n6⟩:=n6
     simp only [Option.map_none]
     refine ⟨k',hk',?_⟩
     refine evW_eq code_tags_reader_reference (Nat.le_of_ble_eq_true rfl) ?_
     simp only [go_sem,simprocAttr,mk_S,t1,t2,t3,t4,t5,t6,n6,cl_keep,cl_owns,cl_cells,cl_drop,cl_slots,cl_under r hlt,List.length_set,dropCs_nil]
 | false =>
 have t6:=tf _ (by decide) h6
 rw [if_neg (by simp)]
 refine ⟨k,hk,?_⟩
 rw [hsame]
 refine evW_eq code_tags_reader_reference (Nat.le_of_ble_eq_true rfl) ?_
 simp only [go_sem,simprocAttr,mk_S,t1,t2,t3,t4,t5,t6,cl_keep,cl_owns,cl_cells,cl_drop,cl_slots,cl_under r hlt,dropCs_nil]
theorem low_set {n b:Nat} {q:Nat × List PV} (hq:lows n q.2=true):∀ {bx:Boxes},boxLows n bx=true→boxLows n (bx.set b q)=true:=by
 intro bx
 induction bx generalizing b with
 | nil=>exact fun h=>h
 | cons p l ih =>
   intro h
   rw [boxLows_cons,Bool.and_eq_true] at h
   cases b with
   | zero=>rw [List.set_cons_zero,boxLows_cons,hq,h.2];rfl
   | succ b=>rw [List.set_cons_succ,boxLows_cons,h.1,ih h.2];rfl
theorem low_app {n:Nat}:∀ {bx by_:Boxes},boxLows n (bx++by_)=(boxLows n bx && boxLows n by_)
 | [],by_=>by rw [List.nil_append,boxLows_nil,Bool.true_and]
 | p::l,by_=>by rw [List.cons_append,boxLows_cons,boxLows_cons,low_app,Bool.and_assoc]
theorem rd_low {n:Nat} {s:Str} {k:Nat}:lows n (rd s k)=true:=rfl
theorem ap_b {bx:Boxes} {b:Nat} {x q:Nat × List PV} (h:b<bx.length):(bx.set b x++[q])[b]? =some x:=by
 rw [List.getElem?_append_left (by rw [List.length_set];exact h),List.getElem?_set_self h]
theorem ap_n {bx:Boxes} {b:Nat} {x q:Nat × List PV}:(bx.set b x++[q])[bx.length]? =some q:=by
 have:bx.length=(bx.set b x).length:=by rw [List.length_set]
 rw [this,List.getElem?_concat_length]
theorem ap_setb {bx:Boxes} {b:Nat} {x y q:Nat × List PV} (h:b<bx.length):(bx.set b x++[q]).set b y=bx.set b y++[q]:=by
 rw [List.set_append_left _ _ (by rw [List.length_set];exact h),List.set_set]
theorem ap_setn {bx:Boxes} {b:Nat} {x q z:Nat × List PV}:(bx.set b x++[q]).set bx.length z=bx.set b x++[z]:=by
 rw [List.set_append_right _ _ (by rw [List.length_set];exact Nat.le_refl _),List.length_set,Nat.sub_self];rfl
theorem ap_len {bx:Boxes} {b:Nat} {x q:Nat × List PV}:(bx.set b x++[q]).length=bx.length+1:=by
 rw [List.length_append,List.length_set];rfl
theorem ap_take {bx:Boxes} {b:Nat} {x q:Nat × List PV}:(bx.set b x++[q]).take bx.length=bx.set b x:=by
 rw [List.take_append_of_le_length (by rw [List.length_set];exact Nat.le_refl _),List.take_of_length_le (by rw [List.length_set];exact Nat.le_refl _)]
theorem bld_f {b:Nat} {l:List PV}:bld false b [] l=PV.flat (.pointer none)::PV.slc 0 []::l:=rfl
theorem mem_low {n:Nat} {x:Nat × Nat} {r:List (Nat × Nat)} (h:∀ q∈r,q.1<n):∀ q∈(n,1)::r,q.1<n+1:=by
 intro q hq
 rcases List.mem_cons.1 hq with rfl | hq
 ·exact Nat.lt_succ_self _
 ·exact Nat.lt_succ_of_lt (h q hq)
theorem says_ev (HP:LibPre lib) (HB:BldIn lib) {bx:Boxes} {r:List (Nat × Nat)} {b e:Nat} {s:Str} {k:Nat} {en bd:UInt8} (hb:bx[b]? =some (e,rd s k)) (hlow:boxLows bx.length bx=true) (hs:s.length≤100000000) (hk:k≤s.length) (hr:∀ q∈r,q≠(b,1)) (hlt:∀ q∈r,q.1<bx.length) :
 match saysE s en bd k with
 | some (x,p)=>evW code lib 164 [.ptr b 0,.flat (.int .u8 en.toNat),.flat (.int .u8 bd.toNat)] bx (cl r)=some ([.flat (.string (S x)),.flat (.bool true)],false,bx.set b (e,rd s p),cl r)
 | none=>∃ k',k'≤s.length∧evW code lib 164 [.ptr b 0,.flat (.int .u8 en.toNat),.flat (.int .u8 bd.toNat)] bx (cl r)=some ([.flat (.string (S [])),.flat (.bool false)],false,bx.set b (e,rd s k'),cl r):=by
 have hblt:b<bx.length:=(List.getElem?_eq_some_iff.1 hb).1
 obtain ⟨r',hr'⟩:∃ r',r'=(bx.length,1)::r:=⟨_,rfl⟩
 have hcl:Loc.cell bx.length 1::cl r=cl r':=by rw [hr'];rfl
 have hlt':∀ q∈r',q.1<bx.length+1:=by rw [hr'];exact mem_low (x:=(0,0)) hlt
 have hr'b:∀ q∈r',q≠(b,1):=by
  rw [hr'];intro q hq
  rcases List.mem_cons.1 hq with rfl | hq
  ·exact fun h=>by have:=congrArg Prod.fst h;dsimp only at this;omega
  ·exact hr q hq
 have hnr:∀ q∈r,q≠(bx.length,1):=fun q hq h=>by have:=hlt q hq;rw [h] at this;exact Nat.lt_irrefl _ this
 have hd:dropL (Loc.cell bx.length 1) (cl r')=cl r:=by
  rw [hr']
  show dropL _ (Loc.cell bx.length 1::cl r)=_
  simp only [dropL_cc,and_self,if_true,cl_dropL r hnr,ne_eq,not_true_eq_false,if_false]
 have hun:underO bx.length (cl r')=cl r:=by
  rw [hr']
  show underO _ (Loc.cell bx.length 1::cl r)=_
  simp only [underO_c,Nat.lt_irrefl,if_false,cl_under r hlt]
 have hlt1:∀ q∈r,q.1<bx.length+1:=fun q hq=>Nat.lt_succ_of_lt (hlt q hq)
 have hWS:∀ (j:Nat) (x:Str) (u:Bool) (out:Str),out.length+x.length≤bound→evW code lib 47 [.ptr bx.length 0,.flat (.string (S x))] (bx.set b (e,rd s j)++[(59,bld u bx.length out [])]) (cl r')=some ([.flat (.int .i64 x.length),.flat .nilIface],false,bx.set b (e,rd s j)++[(59,bld true bx.length (out++x) [])],cl r'):=fun j x u out h=>by
  have:=ws_ev (lib:=lib) (r:=r) (m:=x) HB (ap_n (bx:=bx) (b:=b) (x:=(e,rd s j)) (q:=(59,bld u bx.length out []))) liesB0 h hnr (by rw [ap_len];exact hlt1)
  rw [ap_setn,hcl] at this
  exact this
 have hWB:∀ (j:Nat) (x:UInt8) (u:Bool) (out:Str),out.length+1≤bound→evW code lib 84 [.ptr bx.length 0,.flat (.int .u8 x.toNat)] (bx.set b (e,rd s j)++[(59,bld u bx.length out [])]) (cl r')=some ([.flat .nilIface],false,bx.set b (e,rd s j)++[(59,bld true bx.length (out++[x]) [])],cl r'):=fun j x u out h=>by
  have:=wb_ev (lib:=lib) (r:=r) (c:=x) HB (ap_n (bx:=bx) (b:=b) (x:=(e,rd s j)) (q:=(59,bld u bx.length out []))) liesB0 h hnr (by rw [ap_len];exact hlt1)
  rw [ap_setn,hcl] at this
  exact this
 have hrel:=loop_rel (body:=evC (evW code lib) big b_tags_reader_says_0) (live:=[0,1,2,8]) (nb:=bx.length+1)
  (fun (u:Bool) (q:Str × Nat)=>(⟨[(0,.ptr b 0),(1,.flat (.int .u8 en.toNat)),(2,.flat (.int .u8 bd.toNat)),(8,.ptr bx.length 0)],cl r',[],bx.set b (e,rd s q.2)++[(59,bld u bx.length q.1 [])]⟩:St))
  (saysT s en bd) none (fun a o st=>match a with
    | some q=>o=.exit 0∧∃ u,st=⟨[(8,.ptr bx.length 0)],cl r',[],bx.set b (e,rd s q.2)++[(59,bld u bx.length q.1 [])]⟩
    | none=>o=.ret∧∃ k' y,k'≤s.length∧st=⟨[(6,.flat (.string (S []))),(7,.flat (.bool false))],cl r',[],bx.set b (e,rd s k')++[y]⟩)
  (fun a=>a.2≤s.length∧k≤a.2∧a.1.length≤4 * (a.2 - k)) (fun a=>s.length - a.2) (fun u ⟨out,j⟩ hi=>?_) (fun u ⟨out,j⟩ hi=>?_) (fun a c hi h=>saysT_in k a c hi h) (n:=s.length+1) (m:=big) false ([],k) ⟨hk,Nat.le_refl _,by simp⟩ (by dsimp only;omega) (by unfold big;dsimp only;omega)
 ·obtain ⟨o,st,hl,hq⟩:=hrel
  have hsaysE:runS (saysT s en bd) none (s.length+1) ([],k)=saysE s en bd k:=rfl
  rw [hsaysE] at hq
  dsimp only at hl
  rw [set_same hb,bld_f] at hl
  cases hE:saysE s en bd k with
  | some q =>
    obtain ⟨x,p⟩:=q
    rw [hE] at hq
    obtain ⟨rfl,u,rfl⟩:=hq
    dsimp only at hl ⊢
    have hst:=st_ev (lib:=lib) (oc:=cl r') (u:=u) (l:=x) (rest:=[]) HB (ap_n (bx:=bx) (b:=b) (x:=(e,rd s p)) (q:=(59,bld u bx.length x []))) (by rw [hr'];exact List.mem_cons_self)
    have hlo:=low_set (b:=b) (q:=(e,rd s p)) rd_low hlow
    refine evW_eq code_tags_reader_says (Nat.le_of_ble_eq_true rfl) ?_
    simp (maxSteps:=999999) (disch:=first | assumption | omega) only [go_sem,simprocAttr,au,hcl,hl,hst,hd,hlo,rd_low,ap_len,ap_take,List.length_append]
  | none =>
    rw [hE] at hq
    obtain ⟨rfl,k',y,hk',rfl⟩:=hq
    dsimp only at hl ⊢
    have hlo:=low_set (b:=b) (q:=(e,rd s k')) rd_low hlow
    refine ⟨k',hk',?_⟩
    refine evW_eq code_tags_reader_says (Nat.le_of_ble_eq_true rfl) ?_
    simp (maxSteps:=999999) (disch:=first | assumption | omega) only [go_sem,simprocAttr,au,hcl,hl,hun,hlo,rd_low,ap_len,ap_take,List.length_append]
 ·
  dsimp only at hi
  have hdn:=done_ev (lib:=lib) (r:=r') (ap_b (x:=(e,rd s j)) (q:=(59,bld u bx.length out [])) hblt) (by rw [ap_len];exact hlt')
  dsimp only
  by_cases hlt1:j<s.length
  ·have hg:s[j]? =some s[j]:=List.getElem?_eq_getElem hlt1
   obtain ⟨c,hc⟩:∃ c,s[j]=c:=⟨_,rfl⟩
   rw [hc] at hg
   unfold saysT
   simp only [hg]
   by_cases h1:c=en
   ·rw [if_pos h1]
    have h1':=congrArg UInt8.toNat h1
    refine ⟨.exit 0,⟨[(8,.ptr bx.length 0)],cl r',[],bx.set b (e,rd s j)++[(59,bld u bx.length out [])]⟩,?_,by simp,rfl,u,rfl⟩
    simp only [rd,Int.natCast_add,Int.natCast_one] at hdn ⊢
    simp (maxSteps:=999999) (disch:=first | assumption | omega) only [go_sem,simprocAttr,au,on_tags_reader_says_0,hdn,hg,ap_b,ap_n,ap_setb,ap_setn,ap_len]
   ·rw [if_neg h1]
    have h1':(c.toNat=en.toNat)=False:=eq_false fun h=>h1 (UInt8.toNat_inj.1 h)
    by_cases h2:c=bd
    ·rw [if_pos h2]
     have h2':(c.toNat=bd.toNat)=True:=eq_true (congrArg UInt8.toNat h2)
     refine ⟨.ret,⟨[(6,.flat (.string (S []))),(7,.flat (.bool false))],cl r',[],bx.set b (e,rd s j)++[(59,bld u bx.length out [])]⟩,?_,by simp,rfl,j,_,by omega,rfl⟩
     simp only [rd,Int.natCast_add,Int.natCast_one] at hdn ⊢
     simp (maxSteps:=999999) (disch:=first | assumption | omega) only [go_sem,simprocAttr,au,on_tags_reader_says_0,hdn,hg,h1',h2',ap_b,ap_n,ap_setb,ap_setn,ap_len]
    ·rw [if_neg h2]
     have h2':(c.toNat=bd.toNat)=False:=eq_false fun h=>h2 (UInt8.toNat_inj.1 h)
     by_cases h3:c=38
     ·rw [if_pos h3]
      have h3':(c.toNat=38)=True:=eq_true (by rw [h3];rfl)
      have href:=reference_ev (lib:=lib) HP (r:=r') (ap_b (x:=(e,rd s j)) (q:=(59,bld u bx.length out [])) hblt) (by omega) (by omega:j≤s.length) hr'b (by rw [ap_len];exact hlt')
      cases hO:oneE (s.drop j) with
      | none =>
        rw [hO] at href
        obtain ⟨k',hk',href⟩:=href
        rw [ap_setb hblt] at href
        dsimp only
        refine ⟨.ret,⟨[(6,.flat (.string (S []))),(7,.flat (.bool false))],cl r',[],bx.set b (e,rd s k')++[(59,bld u bx.length out [])]⟩,?_,by simp,rfl,k',_,hk',rfl⟩
        simp only [rd,Int.natCast_add,Int.natCast_one] at hdn href ⊢
        simp (maxSteps:=999999) (disch:=first | assumption | omega) only [go_sem,simprocAttr,au,on_tags_reader_says_0,hdn,href,hg,h1',h2',h3',ap_b,ap_n,ap_setb,ap_setn,ap_len]
      | some q =>
        obtain ⟨x,n⟩:=q
        rw [hO] at href
        dsimp only at href ⊢
        rw [ap_setb hblt] at href
        have hx:=oneE_len hO
        rw [List.length_drop] at hx
        dsimp only at hx
        have hw:=hWS (j+n) x u out (by unfold bound;omega)
        refine ⟨true,?_⟩
        simp only [rd,Int.natCast_add,Int.natCast_one] at hdn href hw ⊢
        simp (maxSteps:=999999) (disch:=first | assumption | omega) only [go_sem,simprocAttr,au,on_tags_reader_says_0,hdn,href,hw,hg,h1',h2',h3',ap_b,ap_n,ap_setb,ap_setn,ap_len]
     ·rw [if_neg h3]
      have h3':(c.toNat=38)=False:=eq_false fun h=>h3 (UInt8.toNat_inj.1 h)
      have hw:=hWB j c u out (by unfold bound;omega)
      refine ⟨true,?_⟩
      simp only [rd,Int.natCast_add,Int.natCast_one] at hdn hw ⊢
      simp (maxSteps:=999999) (disch:=first | assumption | omega) only [go_sem,simprocAttr,au,on_tags_reader_says_0,hdn,hw,hg,h1',h2',h3',ap_b,ap_n,ap_setb,ap_setn,ap_len]
  ·have hg:s[j]? =none:=List.getElem?_eq_none (by omega)
   unfold saysT
   simp only [hg]
   refine ⟨.exit 0,⟨[(8,.ptr bx.length 0)],cl r',[],bx.set b (e,rd s j)++[(59,bld u bx.length out [])]⟩,?_,by simp,rfl,u,rfl⟩
   simp only [rd,Int.natCast_add,Int.natCast_one] at hdn ⊢
   simp (maxSteps:=999999) (disch:=first | assumption | omega) only [go_sem,simprocAttr,au,on_tags_reader_says_0,hdn,hg,ap_b,ap_n,ap_setb,ap_setn,ap_len]
 ·simp (maxSteps:=999999) (disch:=first | assumption | omega) only [go_sem,simprocAttr,au,ap_len]
end Nun
end

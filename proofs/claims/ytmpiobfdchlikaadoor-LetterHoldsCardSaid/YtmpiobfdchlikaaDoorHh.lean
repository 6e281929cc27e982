/- LetterHolds answers true for all texts, at any start: texts of this proof, merged. -/
import Derived.Test.YtmpiobfdchlikaaDoorHg
import Derived.KernelRfl
import Derived.Test.YtmpiobfdchlikaaDoorRows
import Derived.LaidMore
import Derived.ProofKit
import Derived.OpenShut
import Derived.Stop.Joined
import Derived.Handed
import Derived.HandedShaped
import Derived.Lib.LaidU8
import Derived.Shelf.Vars
import Derived.Test.YtmpiobfdchlikaaDoorTie
import Derived.Test.YtmpiobfdchlikaaDoorCards
import Derived.SevenTiedAt
set_option linter.unusedVariables false
set_option linter.unusedSimpArgs false
section
namespace Nun
def nextOk:List UInt8→Bool | []=>false | d::_=>d != 10
def piece (c:UInt8) (t:List UInt8):List UInt8:=if plainB c || ((c == 32 || c == 9) && nextOk t) then [c] else 61::pair c
theorem piece_len (c:UInt8) (t:List UInt8):0<(piece c t).length∧(piece c t).length≤3:=by unfold piece;split<;>simp [pair]
def encL:Nat→List UInt8→List UInt8
 | _,[]=>[]
 | line,c::t=>if c=10 then 13::10::encL 0 t
   else if line+(piece c t).length > 75 then [61,13,10]++(piece c t++encL (piece c t).length t) else piece c t++encL (line+(piece c t).length) t
theorem piece_one {s:List UInt8} {k:Nat} (hk:k<s.length) (h:plainB s[k]=true∨((s[k]=32∨s[k]=9)∧∃ h:k+1<s.length,s[k+1]≠10)):piece s[k] (s.drop (k+1))=[s[k]]:=by
 unfold piece
 rcases h with h | ⟨h,h2,h3⟩
 ·rw [if_pos (by simp [h])]
 ·rw [List.drop_eq_getElem_cons h2,if_pos]
  rcases h with h | h<;>simp [h,nextOk,h3]
theorem piece_three {s:List UInt8} {k:Nat} (hk:k<s.length) (hp:plainB s[k]=false) (h:(s[k]≠32∧s[k]≠9)∨s.length≤k+1∨∃ h:k+1<s.length,s[k+1]=10):piece s[k] (s.drop (k+1))=61::pair s[k]:=by
 unfold piece
 rw [if_neg]
 rcases h with ⟨h,h'⟩ | h | ⟨h,h'⟩
 ·simp [hp,h,h']
 ·rw [List.drop_of_length_le h];simp [hp,nextOk]
 ·rw [List.drop_eq_getElem_cons h];simp [hp,nextOk,h']
end Nun
namespace Go.Proofs.YtmpiobfdchlikaaDoor
open Go.RowKit Nun
set_option maxHeartbeats 2000000 in
set_option maxRecDepth 100000 in
theorem piece_ref (s:ByteArray) (k:Nat) (w:World) (hs:s.size≤1000000000) (hk:k<s.size):Calls Tryd.prog 18 #[.string s,.int .i64 k] w (Ret (.string ⟨(piece s[k] (s.data.toList.drop (k+1))).toArray⟩) w):=by
 have kc:=fun (w:World) (x:UInt8)=>conv_one (P:=Tryd.prog) Tryd.underlying73 Tryd.underlying5 Tryd.underlying9 w x
 have hpl:(pair s[k]).length≤2:=by simp [pair]
 generalize hp:plainB s[k]=bp
 have HP:=Lib.hid hp;clear hp
 cases bp
 ·by_cases hbl:s[k]=32∨s[k]=9
  ·have q:∃ b,((s[k].toNat:Int) == 32)=b∧(b=false→((s[k].toNat:Int) == 9)=true):=by
    refine ⟨_,rfl,fun h=>?_⟩
    rcases hbl with h' | h'
    ·rw [h'] at h;cases h
    ·rw [h'];rfl
   obtain ⟨b,q1,q2⟩:=q
   by_cases hn:k+1<s.size
   ·have i1:(k:Int)<(s.size:Int) - 1:=by omega
    have i2:(k:Int)+1<(s.size:Int):=by omega
    by_cases h10:s[k+1]=10
    ·have HE:=Lib.hid (show piece s[k] (s.data.toList.drop (k+1))=_ from piece_three (s:=s.data.toList) hk HP.out (.inr (.inr ⟨hn,h10⟩)))
     have q3:((s[k+1].toNat:Int) == 10)=true:=by rw [h10];rfl
     have q4:((s[k+1].toNat:Int) != 10)=false:=by rw [h10];rfl
     clear h10 hbl
     cases b
     all_goals (try replace q2:=q2 rfl)
     all_goals
      go_enter Tryd.func18,Tryd.ntmps18
      go_wp2_with (first | (go_at_call 33;refine (plain_of_ref _ _ HP.out _).mono ?_;rintro e w1 ⟨rfl,rfl⟩) | (go_at_call 34;refine (pair_ref _ _).mono ?_;rintro e w1 ⟨rfl,hb1⟩))
      go_ret
      exact ⟨by rw [HE.out];exact r1 (vS (by simp [ByteArray.toList_data_append];rfl)),(by repeat (first | assumption | exact Below.refl _ _ | refine below_of ?_ (by assumption)))⟩
    ·have HE:=Lib.hid (show piece s[k] (s.data.toList.drop (k+1))=_ from piece_one (s:=s.data.toList) hk (.inr ⟨hbl,hn,h10⟩))
     have q3:((s[k+1].toNat:Int) == 10)=false:=by simp [← UInt8.toNat_inj] at h10 ⊢;omega
     have q4:((s[k+1].toNat:Int) != 10)=true:=by simp [← UInt8.toNat_inj] at h10 ⊢;omega
     clear h10 hbl
     cases b
     all_goals (try replace q2:=q2 rfl)
     all_goals
      go_enter Tryd.func18,Tryd.ntmps18
      go_wp2_with (first | (go_at_call 33;refine (plain_of_ref _ _ HP.out _).mono ?_;rintro e w1 ⟨rfl,rfl⟩) | (go_at_call 34;refine (pair_ref _ _).mono ?_;rintro e w1 ⟨rfl,hb1⟩))
      go_ret
      exact ⟨by rw [HE.out];rfl,(Below.refl _ _).alloc (Nat.le_refl _) _⟩
   ·have HE:=Lib.hid (show piece s[k] (s.data.toList.drop (k+1))=_ from piece_three (s:=s.data.toList) hk HP.out (.inr (.inl (by show s.size≤_;omega))))
    have i1:¬ (k:Int)<(s.size:Int) - 1:=by omega
    clear hbl
    cases b
    all_goals (try replace q2:=q2 rfl)
    all_goals
     go_enter Tryd.func18,Tryd.ntmps18
     go_wp2_with (first | (go_at_call 33;refine (plain_of_ref _ _ HP.out _).mono ?_;rintro e w1 ⟨rfl,rfl⟩) | (go_at_call 34;refine (pair_ref _ _).mono ?_;rintro e w1 ⟨rfl,hb1⟩))
     go_ret
     exact ⟨by rw [HE.out];exact r1 (vS (by simp [ByteArray.toList_data_append];rfl)),(by repeat (first | assumption | exact Below.refl _ _ | refine below_of ?_ (by assumption)))⟩
  ·have h32:¬ s[k]=32:=fun h=>hbl (.inl h)
   have h9:¬ s[k]=9:=fun h=>hbl (.inr h)
   have HE:=Lib.hid (show piece s[k] (s.data.toList.drop (k+1))=_ from piece_three (s:=s.data.toList) hk HP.out (.inl ⟨h32,h9⟩))
   have q1:((s[k].toNat:Int) == 32)=false:=by simp [← UInt8.toNat_inj] at h32 ⊢;omega
   have q2:((s[k].toNat:Int) == 9)=false:=by simp [← UInt8.toNat_inj] at h9 ⊢;omega
   clear hbl h32 h9
   go_enter Tryd.func18,Tryd.ntmps18
   go_wp2_with (first | (go_at_call 33;refine (plain_of_ref _ _ HP.out _).mono ?_;rintro e w1 ⟨rfl,rfl⟩) | (go_at_call 34;refine (pair_ref _ _).mono ?_;rintro e w1 ⟨rfl,hb1⟩))
   go_ret
   exact ⟨by rw [HE.out];exact r1 (vS (by simp [ByteArray.toList_data_append];rfl)),(by repeat (first | assumption | exact Below.refl _ _ | refine below_of ?_ (by assumption)))⟩
 ·have HE:=Lib.hid (show piece s[k] (s.data.toList.drop (k+1))=_ from piece_one (s:=s.data.toList) hk (.inl HP.out))
  by_cases h32:s[k]=32
  ·have:=HP.out;rw [h32] at this;cases this
  ·by_cases h9:s[k]=9
   ·have:=HP.out;rw [h9] at this;cases this
   ·have q1:((s[k].toNat:Int) == 32)=false:=by simp [← UInt8.toNat_inj] at h32 ⊢;omega
    have q2:((s[k].toNat:Int) == 9)=false:=by simp [← UInt8.toNat_inj] at h9 ⊢;omega
    clear h32 h9
    go_enter Tryd.func18,Tryd.ntmps18
    go_wp2_with (first | (go_at_call 33;refine (plain_of_ref _ _ HP.out _).mono ?_;rintro e w1 ⟨rfl,rfl⟩) | (go_at_call 34;refine (pair_ref _ _).mono ?_;rintro e w1 ⟨rfl,hb1⟩))
    go_ret
    exact ⟨by rw [HE.out];rfl,(Below.refl _ _).alloc (Nat.le_refl _) _⟩
end Go.Proofs.YtmpiobfdchlikaaDoor
end
section
namespace Nun
open Go
def crlf:Str:=[13,10]
def linesU:List Str→Str
 | []=>[]
 | x::L=>x++crlf++linesU L
theorem crAt_line:∀ (x r:Str),(∀ c∈x,c≠13)→crAt (x++13::10::r)=some x.length
 | [],r,_=>by simp [crAt]
 | c::x,r,h=>by
   rw [List.cons_append,crAt,if_neg (fun hc=>h c (by simp) hc.1),crAt_line x r fun d hd=>h d (by simp [hd])];rfl
theorem itL_line (x r:Str) (a:Nat) (h:∀ c∈x,c≠13):itL (x++13::10::r) a=(x,a+x.length+2)::if x=[] then [] else itL r (a+x.length+2):=by
 rw [itL_some (crAt_line x r h)]
 have h1:(x++13::10::r).take x.length=x:=by simp
 have h2:(x++13::10::r).drop (x.length+2)=r:=by rw [List.drop_append];simp
 rw [h1,h2]
 by_cases hx:x=[]
 ·subst hx;rfl
 ·rw [if_neg (fun e=>hx (List.eq_nil_of_length_eq_zero e)),if_neg hx]
theorem run_lines:∀ (L:List Str) (r:Str) (a:Nat) (st st':List Fld × Bool),(∀ x∈L,x≠[]∧∀ c∈x,c≠13)→linesL L st=some st' →
 runHead (itL (linesU L++13::10::r) a) st=some (st'.1,st'.2,a+(linesU L).length+2)
 | [],r,a,st,st',_,h=>by
   simp [linesL] at h
   subst h
   have:=itL_line [] r a (by simp)
   simp only [List.nil_append] at this
   rw [show linesU []++13::10::r=13::10::r from rfl,this]
   rfl
 | x::L,r,a,st,st',hx,h=>by
   obtain ⟨hn,h13⟩:=hx x (by simp)
   rw [linesL,List.foldlM_cons] at h
   obtain ⟨s1,h1,h2⟩:=Option.bind_eq_some_iff.1 h
   have e:linesU (x::L)++13::10::r=x++13::10::(linesU L++13::10::r):=by
    rw [linesU,crlf,List.append_assoc,List.append_assoc];rfl
   rw [e,itL_line _ _ _ h13,if_neg hn,runHead,if_neg hn,h1]
   dsimp only
   rw [run_lines L r _ s1 st' (fun y hy=>hx y (by simp [hy])) h2]
   have:(linesU (x::L)).length=x.length+2+(linesU L).length:=by rw [linesU,crlf];simp only [List.length_append,List.length_cons,List.length_nil]
   rw [this]
   congr 3;omega
theorem split_lines (L:List Str) (r:Str) (F:List Fld) (h:∀ x∈L,x≠[]∧∀ c∈x,c≠13) (hl:linesL L ([],false)=some (F,false)) :
 splitL (linesU L++13::10::r)=.ok (F.map fun p=>(p.1,trimB p.2)) ((linesU L).length+2):=by
 unfold splitL
 rw [run_lines L r 0 _ _ h hl]
 simp
theorem plain_61:∀ c:UInt8,plainB c=true→c≠61:=by decide +kernel
theorem pair_61:∀ c:UInt8,∀ d∈pair c,d≠61∧d≠95:=by decide +kernel
def noEq:Str→Bool
 | []=>true
 | c::t=>!(c == 61 && t.head? == some 95) && noEq t
theorem noEq_one {c:UInt8} {t:Str} (h:c≠61):noEq (c::t)=noEq t:=by
 have:(c == 61)=false:=by simpa using h
 rw [noEq,this];rfl
theorem noEq_app:∀ (a b:Str),noEq a=true→noEq b=true→(a.getLast? ≠some 61∨b.head? ≠some 95)→noEq (a++b)=true
 | [],b,_,h,_=>h
 | [c],b,ha,h,hl=>by
   rw [List.singleton_append,noEq,h,Bool.and_true]
   rcases hl with hl | hl
   ·have:(c == 61)=false:=by simpa using hl
    rw [this];rfl
   ·have:(b.head? == some 95)=false:=by simpa using hl
    rw [this,Bool.and_false];rfl
 | c::d::a,b,ha,h,hl=>by
   rw [noEq,Bool.and_eq_true] at ha
   rw [List.cons_append,noEq,Bool.and_eq_true]
   exact ⟨ha.1,noEq_app (d::a) b ha.2 h (by simpa [List.getLast?_cons] using hl)⟩
theorem noEq_piece (c:UInt8) (t r:Str):noEq (piece c t++r)=noEq r:=by
 unfold piece
 split
 ·rename_i h
  simp only [Bool.or_eq_true,Bool.and_eq_true,beq_iff_eq] at h
  refine noEq_one ?_
  rcases h with h | ⟨h | h,_⟩
  ·exact plain_61 c h
  ·rw [h];decide
  ·rw [h];decide
 ·have hp:=pair_61 c
  have e:pair c=[hexd (c / 16),hexd (c % 16)]:=rfl
  rw [e] at hp ⊢
  have h1:=hp (hexd (c / 16)) (by simp)
  have h2:=hp (hexd (c % 16)) (by simp)
  have h3:(some (hexd (c / 16)) == some (95:UInt8))=false:=by simpa using h1.2
  show noEq (61::hexd (c / 16)::hexd (c % 16)::r)=_
  rw [noEq,List.head?_cons,h3,noEq_one h1.1,noEq_one h2.1];rfl
theorem noEq_enc:∀ (s:Str) (line:Nat),noEq (encL line s)=true
 | [],line=>rfl
 | c::t,line=>by
   rw [encL]
   split
   ·rw [noEq_one (by decide),noEq_one (by decide)];exact noEq_enc t 0
   ·split
    ·show noEq (61::13::10::(piece c t++encL _ t))=true
     rw [noEq,noEq_one (by decide),noEq_one (by decide),noEq_piece,noEq_enc t];rfl
    ·rw [noEq_piece];exact noEq_enc t _
theorem noEq_drop:∀ (x:Str) (i:Nat),noEq x=true→noEq (x.drop i)=true
 | [],i,_=>by simp [noEq]
 | c::x,0,h=>h
 | c::x,i+1,h=>by
   rw [noEq,Bool.and_eq_true] at h
   exact noEq_drop x i h.2
theorem no_mark {x r w:Str} (hx:x≠[]) (h:noEq x=true):([13,10,45,45,61,95]++w).isPrefixOf (x++13::r)=false:=by
 rw [Bool.eq_false_iff]
 intro hp
 rw [List.isPrefixOf_iff_prefix] at hp
 obtain ⟨z,hz⟩:=hp
 match x,hx,h with
 | [a],_,_=>simp at hz
 | [a,b],_,_=>simp at hz
 | [a,b,c],_,_=>simp at hz
 | [a,b,c,d],_,_=>simp at hz
 | [a,b,c,d,e],_,_=>simp at hz
 | a::b::c::d::e::f::x,_,h =>
   simp at hz
   obtain ⟨rfl,rfl,rfl,rfl,rfl,rfl,_⟩:=hz
   simp [noEq] at h
theorem bare_id (x:List UInt8) (h:∀ c∈x,soft c=false):bare x=x:=by
 unfold bare;rw [List.filter_eq_self];intro c hc;rw [h c hc];rfl
theorem bare_app (x y:List UInt8):bare (x++y)=bare x++bare y:=by unfold bare;rw [List.filter_append]
theorem bare_wrap (m n:Nat):∀ l:List UInt8,l.length≤n→(∀ c∈l,soft c=false)→bare (wrapL m l)=l:=by
 induction n with
 | zero=>intro l h hl;rw [wrapL_end (by omega)];exact bare_id l hl
 | succ n ih =>
   intro l h hl
   by_cases hm:m+1<l.length
   ·rw [wrapL_more hm,bare_app,bare_app,bare_id _ (fun c h=>hl c (List.mem_of_mem_take h)),ih (l.drop (m+1)) (by rw [List.length_drop];omega) (fun c h=>hl c (List.mem_of_mem_drop h))]
    rw [show bare [13,10]=[] by decide,List.append_nil,List.take_append_drop]
   ·rw [wrapL_end hm];exact bare_id l hl
theorem dig_hard (n:Nat):soft (dig n)=false:=by
 by_cases h:n<64
 ·exact (show ∀ i:Fin 64,soft (dig i.1)=false by decide +kernel) ⟨n,h⟩
 ·unfold dig;rw [List.getD_eq_getElem?_getD,List.getElem?_eq_none (by show 64≤n;omega)];decide
theorem quad_hard (l:List UInt8):∀ c∈quad l,soft c=false:=by
 intro c hc
 unfold quad at hc
 simp only [List.mem_cons,List.not_mem_nil,or_false] at hc
 rcases hc with rfl | rfl | rfl | rfl
 ·exact dig_hard _
 ·exact dig_hard _
 ·split
  ·decide
  ·exact dig_hard _
 ·split
  ·decide
  ·exact dig_hard _
theorem enc64_hard (n:Nat):∀ l:List UInt8,l.length≤n→∀ c∈enc64 l,soft c=false:=by
 induction n with
 | zero =>
   intro l h
   have:l=[]:=List.eq_nil_of_length_eq_zero (by omega)
   subst this;simp [enc64]
 | succ n ih =>
   intro l h
   match l,h with
   | [],_=>simp [enc64]
   | [a],_=>exact quad_hard [a]
   | [a,b],_=>exact quad_hard [a,b]
   | a::b::c::l,h =>
     intro x hx
     rw [enc64,List.mem_append] at hx
     rcases hx with hx | hx
     ·exact quad_hard _ x hx
     ·exact ih l (by simp at h;omega) x hx
end Nun
end
section
namespace Nun
theorem getElem?_shift {α:Type} (a l:List α) (k:Nat):(a++l)[a.length+k]? =l[k]? :=by rw [List.getElem?_append_right (by omega)];congr 1;omega
theorem hexAt_shift (a l:List UInt8) (k:Nat):hexAt (a++l) (((a.length+k:Nat):Int)+1)=hexAt l ((k:Int)+1):=by
 unfold hexAt
 have e2:(((a.length+k:Nat):Int)+1).toNat=a.length+(k+1):=by omega
 have e4:((k:Int)+1).toNat=k+1:=by omega
 rw [if_neg (by omega),if_neg (by omega),e2,e4,getElem?_shift,show a.length+(k+1)+1=a.length+(k+1+1) by omega,getElem?_shift]
theorem dstep_shift (a l:List UInt8) (k:Nat):dstep (a++l) (a.length+k)=dstep l k:=by
 unfold dstep
 rw [getElem?_shift,begins_shift,begins_shift,hexAt_shift]
theorem decL_block {b l o:List UInt8} (hb:0<b.length) (h:dstep (b++l) 0=some (o,b.length)):decL (b++l)=(decL l).map (o++·):=by
 unfold decL
 rw [runFrom_some (dstep_pos _) (by rw [List.length_append];omega) h,List.length_append,show 0+b.length=b.length+0 by omega,runFrom_shift' (dstep_shift b l)]
theorem begins_zero (s w:List UInt8):begins s w ((0:Nat):Int)=w.isPrefixOf s:=begins_nat s w 0 (Nat.zero_le _)
theorem dec_nl (l:List UInt8):decL ([13,10]++l)=(decL l).map ([10]++·):=decL_block (by simp) (by
 unfold dstep;rw [begins_zero];simp [List.isPrefixOf])
theorem dec_soft (l:List UInt8):decL ([61,13,10]++l)=decL l:=by
 have:=decL_block (b:=[61,13,10]) (l:=l) (o:=[]) (by simp) (by
  unfold dstep;rw [begins_zero,begins_zero];simp [List.isPrefixOf])
 rw [this];cases decL l<;>simp
theorem dec_one (c:UInt8) (l:List UInt8) (h:plainB c=true∨c=32∨c=9):decL ([c]++l)=(decL l).map ([c]++·):=decL_block (by simp) (by
 have h13:¬ c=13:=by rintro rfl;revert h;decide
 have h61:¬ c=61:=by rintro rfl;revert h;decide
 unfold dstep;rw [begins_zero,begins_zero]
 have e1:(([13,10]:List UInt8).isPrefixOf ([c]++l))=false:=by simp [List.isPrefixOf,beq_eq_false_iff_ne.2 (fun h=>h13 (Eq.symm h))]
 have e2:(([61,13,10]:List UInt8).isPrefixOf ([c]++l))=false:=by simp [List.isPrefixOf,beq_eq_false_iff_ne.2 (fun h=>h61 (Eq.symm h))]
 rw [e1,e2]
 rcases h with h | h | h<;>simp [h,h61]
 all_goals decide)
theorem hex_back:∀ c:UInt8,hex2 (hexd (c / 16)) (hexd (c % 16))=some c:=by decide +kernel
theorem hexd_ne:∀ c:UInt8,(hexd (c / 16) == 13)=false:=by decide +kernel
theorem dec_three (c:UInt8) (l:List UInt8):decL ((61::pair c)++l)=(decL l).map ([c]++·):=decL_block (by simp) (by
 unfold dstep;rw [begins_zero,begins_zero]
 have e1:(([13,10]:List UInt8).isPrefixOf ((61::pair c)++l))=false:=by simp [List.isPrefixOf]
 have e2:(([61,13,10]:List UInt8).isPrefixOf ((61::pair c)++l))=false:=by
  have:=hexd_ne c
  simp [List.isPrefixOf,pair]
  intro h;rw [← h] at this;exact absurd this (by decide)
 rw [e1,e2]
 have e3:hexAt ((61::pair c)++l) (((0:Nat):Int)+1)=some c:=by
  unfold hexAt;rw [if_neg (by omega)];simp [pair,hex_back]
 simp only [List.cons_append,List.getElem?_cons_zero,Bool.false_eq_true,if_false,if_true]
 rw [List.cons_append] at e3
 rw [e3];simp [pair])
theorem dec_piece (c:UInt8) (t l:List UInt8):decL (piece c t++l)=(decL l).map ([c]++·):=by
 unfold piece
 split
 ·rename_i h
  refine dec_one c l ?_
  simp at h
  rcases h with h | ⟨h,_⟩
  ·exact .inl h
  ·exact .inr h
 ·exact dec_three c l
theorem decL_encL (s:List UInt8):∀ line,decL (encL line s)=some s:=by
 induction s with
 | nil=>intro line;rfl
 | cons c t ih =>
   intro line
   unfold encL
   split
   ·rename_i h
    rw [show 13::10::encL 0 t=[13,10]++encL 0 t from rfl,dec_nl,ih,h];rfl
   ·split
    ·rw [dec_soft,dec_piece,ih];rfl
    ·rw [dec_piece,ih];rfl
end Nun
end
section
set_option synthInstance.maxSize 4000
namespace Nun
open Go Go.RowKit
def natCells (l:List Nat):List Value:=l.map fun (n:Nat)=>.int .i64 (n:Int)
theorem natCells_snoc (l:List Nat) (n:Nat):natCells (l++[n])=natCells l++[.int .i64 n]:=by simp [natCells]
def OwnN (B:Nat) (e:TypeId) (v:Value) (l:List Nat) (w:World):Prop:=w.ownsRow B e 1 v l.length (natCells l)
theorem OwnN.kept {B:Nat} {e:TypeId} {v:Value} {l:List Nat} {w w':World} (h:OwnN B e v l w) (k:Below w.heap.size w w'):OwnN B e v l w' :=
 World.ownsRow.kept (row:=none) h ⟨k.os,k.tape,k.output,k.size,fun i hi _=>k.block i hi⟩ (by cases v.ownBlock<;>simp)
theorem OwnN.made {B:Nat} {e:TypeId} (w:World) (hB:B≤w.heap.size) (cap:Nat) (cs:Array Value) (hc:cs.size=cap) (hm:cap≤maxLen):OwnN B e (.slice (some ⟨w.heap.size,0,none⟩) 0 cap) [] (w.alloc (.cells cs e)) :=
 World.ownsRow_made (size:=1) w cs cap hB hm (by omega)
theorem pushn {P:Program} {ops:Array Oper} {rest:List Oper} {o:Oper} {a:Act} {Q:Exit→Act→World→Prop} (hgd:o.guard=none) (s x:Operand) (t:TypeId)
 (ho:o.op=.call { callee:=.builtin .append,args:=#[s,x],argTypes:=#[t,t] })
 (e:TypeId) (ht:P.underlying t=some (.slice e)) (hi:(P.info? e).map (fun i=>(i.zero,i.size,i.bytes))=some (some (.int .i64 0),1,8))
 (B:Nat) (w:World) (v:Value) (l:List Nat) (hs:a.eval s=v) (hown:OwnN B e v l w) (m:Int) (c:Nat) (hm:m=c)
 (hx:a.eval x=.slice (some ⟨w.heap.size,0,none⟩) 1 1) (hmax:(l.length+1) * 8≤140737488355328) (hB:B≤w.heap.size)
 (h:∀ v' w',OwnN B e v' (l++[c]) w'→w.grownBy w' v.ownBlock→Below B w w'→w.heap.size<w'.heap.size→wpList P ops Q rest (a.put o.dst v') w') :
 wpList P ops Q (o::rest) a (w.alloc (.cells #[.int .i64 m] e)):=by
 subst hm
 exact push1 hgd s x t ho e (.int .i64 0) 1 8 ht hi rfl (by decide) B w v _ _ hs hown [.int .i64 c] rfl (by simp [Value.oneCell']) hx (by omega) (by omega) hB
  fun g cap w' h1 h2 h3 h4 h5=>h _ w' (by unfold OwnN;rw [natCells_snoc,List.length_append];exact h2) h3 h4 h5
def bits8 (c:UInt8):List Nat:=[c.toNat / 128 % 2,c.toNat / 64 % 2,c.toNat / 32 % 2,c.toNat / 16 % 2,c.toNat / 8 % 2,c.toNat / 4 % 2,c.toNat / 2 % 2,c.toNat % 2]
def bitsL (l:List UInt8):List Nat:=l.flatMap bits8
theorem bitsL_snoc (l:List UInt8) (c:UInt8):bitsL (l++[c])=bitsL l++bits8 c:=by unfold bitsL;rw [List.flatMap_append];simp
theorem bitsL_len (l:List UInt8):(bitsL l).length=8 * l.length:=by
 induction l with
 | nil=>rfl
 | cons c l ih=>show (bits8 c++bitsL l).length=_;rw [List.length_append,ih];simp [bits8];omega
def RowN (v:Value) (l:List Nat) (w:World):Prop:=∃ g o cap,v=.slice (some ⟨g,o,none⟩) l.length cap∧l.length≤cap∧g<w.heap.size∧∀ (j x:Nat),l[j]? =some x→w.cell? ⟨g,o+j,none⟩=some (.int .i64 x)
theorem RowN.kept {v:Value} {l:List Nat} {w w':World} (h:RowN v l w) (k:Below w.heap.size w w'):RowN v l w':=by
 obtain ⟨g,o,cap,rfl,hc,hg,hr⟩:=h
 exact ⟨g,o,cap,rfl,hc,Nat.lt_of_lt_of_le hg k.size,fun j x hj=>(k.cell (p:=⟨g,o+j,none⟩) hg).trans (hr j x hj)⟩
def six (l:List Nat):Nat→Nat
 | 0=>0
 | i+1=>2 * six l i+(l[i]?).getD 0
theorem bits8_snoc (c:UInt8) (j:Nat) (h:j<8):(bits8 c).take (j+1)=(bits8 c).take j++[(bits8 c).getD j 0]:=by
 rw [List.take_succ_eq_append_getElem (by simpa [bits8] using h)];simp [List.getD,List.getElem?_eq_getElem (l:=bits8 c) (i:=j) (by simpa [bits8] using h)]
end Nun
namespace Go.Proofs.YtmpiobfdchlikaaDoor
open Go.RowKit Nun
theorem infoInt:(Tryd.prog.info? 3).map (fun i=>(i.zero,i.size,i.bytes))=some (some (.int .i64 0),1,8):=by kernel_rfl
set_option maxHeartbeats 2000000 in
theorem bits_ref (s:ByteArray) (w:World) (hs:s.size≤1000000):Calls Tryd.prog 19 #[.string s] w fun e w'=>∃ v,e=.returned v∧OwnN w.heap.size 3 v (bitsL s.data.toList) w'∧Below w.heap.size w w':=by
 have hlen:s.data.toList.length=s.size:=rfl
 have HL:=Lib.hid hlen;clear hlen
 go_enter Tryd.func19,Tryd.ntmps19
 go_wp2
 go_loopw [3,4,5] (fun v i _ wr=>∃ (k:Nat),k≤s.size∧i=.int .i64 k∧OwnN w.heap.size 3 v (bitsL (s.data.toList.take k)) wr∧Below w.heap.size w wr)
  (fun _ i _ _=>s.size - (intOf i).toNat)
 case atStart=>exact ⟨0,Nat.zero_le _,rfl,OwnN.made w (Nat.le_refl _) _ _ rfl (by decide),(Below.refl _ _).alloc (Nat.le_refl _) _⟩
 case round =>
  obtain ⟨k,hk,rfl,hown,hbel⟩:=hrel
  have hbl:(bitsL (s.data.toList.take k)).length≤8 * k:=by rw [bitsL_len,List.length_take];omega
  by_cases hlt:k<s.size
  ·have hst:bitsL (s.data.toList.take (k+1))=bitsL (s.data.toList.take k)++bits8 s[k]:=by
    rw [take_snoc _ _ (by rw [HL.out];exact hlt),bitsL_snoc];rfl
   generalize bitsL (s.data.toList.take k)=acc at *
   have HS:=Lib.hid hst;clear hst
   have hc8:=s[k].toNat_lt
   go_wp2
   go_loopw [3,5] (fun v q wr1=>∃ (j:Nat),j≤8∧q=.int .i64 ((128 / 2 ^ j:Nat):Int)∧OwnN w.heap.size 3 v (acc++(bits8 s[k]).take j) wr1∧Below w.heap.size w wr1)
    (fun _ q _=>(intOf q).toNat)
   case atStart=>exact ⟨0,by omega,rfl,by simpa using hown,hbel⟩
   case round =>
    clear hown hbel
    obtain ⟨j,hj,rfl,hown,hbel⟩:=hrel
    by_cases hj8:j<8
    ·obtain ⟨b,hb⟩:∃ b,(bits8 s[k]).getD j 0=b:=⟨_,rfl⟩
     have hsn:=bits8_snoc s[k] j hj8
     rw [hb] at hsn
     have hsn':=Lib.hid (show acc++(bits8 s[k]).take (j+1)=acc++(bits8 s[k]).take j++[b] by rw [hsn,List.append_assoc]);clear hsn
     have hl:((acc++(bits8 s[k]).take j).length+1) * 8≤140737488355328:=by
      rw [List.length_append,List.length_take];omega
     have HB:=Lib.hid hb;clear hb
     have hl':=Lib.hid hl;clear hl
     obtain rfl | rfl | rfl | rfl | rfl | rfl | rfl | rfl:j=0∨j=1∨j=2∨j=3∨j=4∨j=5∨j=6∨j=7:=by omega
     all_goals
      go_wp2_with (at_builtin;refine pushn (by rfl) _ _ _ (by rfl) 3 Tryd.underlying50 infoInt w.heap.size wr _ _ (by rfl) hown _ b (by rw [← HB.out];simp [bits8]) (by rfl) hl'.out hbel.size ?_;intro v1 w1 hown1 hgr hb1 hsz1)
      go_roundw
      case rel =>
       have hrow:=hown1
       rw [← hsn'.out] at hrow
       first | exact ⟨1,by omega,by go_num,hrow,hbel.trans hb1⟩ | exact ⟨2,by omega,by go_num,hrow,hbel.trans hb1⟩ | exact ⟨3,by omega,by go_num,hrow,hbel.trans hb1⟩ | exact ⟨4,by omega,by go_num,hrow,hbel.trans hb1⟩ | exact ⟨5,by omega,by go_num,hrow,hbel.trans hb1⟩ | exact ⟨6,by omega,by go_num,hrow,hbel.trans hb1⟩ | exact ⟨7,by omega,by go_num,hrow,hbel.trans hb1⟩ | exact ⟨8,by omega,by go_num,hrow,hbel.trans hb1⟩
      case measure=>simp [intOf]
    ·obtain rfl:j=8:=by omega
     have he:acc++(bits8 s[k]).take 8=bitsL (s.data.toList.take (k+1)):=by rw [HS.out];rfl
     rw [he] at hown
     clear he
     go_wp2
     go_roundw
     case rel=>exact ⟨k+1,by omega,by go_num,hown,hbel⟩
     case measure=>simp [intOf];omega
  ·obtain rfl:k=s.size:=by omega
   rw [List.take_of_length_le (by rw [HL.out];exact Nat.le_refl _)] at hown
   go_wp2
   go_ret
   exact ⟨_,rfl,hown,hbel⟩
end Go.Proofs.YtmpiobfdchlikaaDoor
end
section
set_option synthInstance.maxSize 4000
namespace Nun
theorem six_lt (l:List Nat) (hl:∀ x∈l,x≤1) (i:Nat):six l i<2 ^ i:=by
 induction i with
 | zero=>simp [six]
 | succ i ih =>
   have:(l[i]?).getD 0≤1:=by
    rcases h:l[i]? with _ | x
    ·simp
    ·exact hl x (List.mem_of_getElem? h)
   rw [six,Nat.pow_succ];omega
theorem six_lt64 (l:List Nat) (hl:∀ x∈l,x≤1) (i:Nat) (hi:i≤6):six l i<64:=Nat.lt_of_lt_of_le (six_lt l hl i) (Nat.pow_le_pow_right (n:=2) (by decide) hi)
def digs (l:List Nat):List UInt8:=if h:0<l.length then dig (six l 6)::digs (l.drop 6) else []
termination_by l.length
decreasing_by simp;omega
theorem digs_more {l:List Nat} (h:0<l.length):digs l=dig (six l 6)::digs (l.drop 6):=by rw [digs,dif_pos h]
theorem digs_nil:digs []=[]:=by rw [digs,dif_neg (by simp)]
theorem digs_len (n:Nat):∀ l:List Nat,l.length≤n→(digs l).length≤l.length:=by
 induction n with
 | zero=>intro l h
         have:l=[]:=List.eq_nil_of_length_eq_zero (by omega)
         subst this;simp [digs_nil]
 | succ n ih =>
   intro l h
   by_cases h0:0<l.length
   ·rw [digs_more h0,List.length_cons]
    have:=ih (l.drop 6) (by rw [List.length_drop];omega)
    rw [List.length_drop] at this;omega
   ·rw [digs,dif_neg h0];simp
theorem bitsL_bits (l:List UInt8):∀ x∈bitsL l,x≤1:=by
 intro x h
 unfold bitsL at h
 obtain ⟨c,_,hc⟩:=List.mem_flatMap.1 h
 simp [bits8] at hc
 omega
def padTo4 (l:List UInt8):List UInt8:=l++List.replicate ((4 - l.length % 4) % 4) 61
theorem dig_ext:∀ i:Fin 64,((⟨digits64.toArray⟩:ByteArray).extract i.1 (i.1+1)).data.toList=[dig i.1]:=by decide +kernel
end Nun
namespace Go.Proofs.YtmpiobfdchlikaaDoor
open Go.RowKit Nun
set_option maxHeartbeats 1000000 in
theorem digits_ref (w:World):Calls Tryd.prog 35 #[] w (Same (.string ⟨digits64.toArray⟩) w):=by
 go_enter Tryd.func35,Tryd.ntmps35
 go_wp2
 go_ret
 exact ⟨rfl,rfl⟩
set_option maxHeartbeats 1000000 in
theorem digit_ref64 (g o cap n:Nat) (l:List Nat) (hn:n=l.length) (w:World) (hr:∀ (j x:Nat),l[j]? =some x→w.cell? ⟨g,o+j,none⟩=some (.int .i64 x)) (hb:∀ x∈l,x≤1) (hc:n≤1000000000) :
 Calls Tryd.prog 20 #[.slice (some ⟨g,o,none⟩) n cap] w (Same (.string ⟨#[dig (six l 6)]⟩) w):=by
 have HR:=Lib.hid hr;clear hr
 have HB:=Lib.hid hb;clear hb
 have HN:=Lib.hid hn;clear hn
 have hx:=dig_ext ⟨six l 6,six_lt64 l HB.out 6 (by decide)⟩
 have HX:=Lib.hid hx;clear hx
 go_enter Tryd.func20,Tryd.ntmps20
 go_wp2
 go_loopw [3,4] (fun m i wr=>∃ (k:Nat),k≤6∧i=.int .i64 k∧m=.int .i64 (six l k)∧wr=w)
  (fun _ i _=>6 - (intOf i).toNat)
 case atStart=>exact ⟨0,by omega,rfl,rfl,rfl⟩
 case round =>
  obtain ⟨k,hk,rfl,rfl,rfl⟩:=hrel
  have h64:=six_lt64 l HB.out k hk
  by_cases h6:k<6
  ·by_cases hkn:k<n
   ·obtain ⟨x,hx⟩:∃ x,l[k]? =some x:=⟨_,List.getElem?_eq_getElem (by rw [← HN.out];exact hkn)⟩
    have hcell:=HR.out k x hx
    have hx1:=HB.out x (List.mem_of_getElem? hx)
    have hsx:((six l (k+1):Nat):Int)=2 * six l k+x:=by rw [six,hx];simp
    have HS:=Lib.hid hsx;clear hsx hx
    go_wp2
    go_roundw
    case rel=>exact ⟨k+1,by omega,by go_num,vi (by rw [HS.out]),trivial⟩
    case measure=>simp [intOf];omega
   ·have hsx:((six l (k+1):Nat):Int)=2 * six l k:=by rw [six,List.getElem?_eq_none (by rw [← HN.out];omega)];simp
    have HS:=Lib.hid hsx;clear hsx
    go_wp2
    go_roundw
    case rel=>exact ⟨k+1,by omega,by go_num,vi (by rw [HS.out]),trivial⟩
    case measure=>simp [intOf];omega
  ·obtain rfl:k=6:=by omega
   have hds:(ByteArray.mk digits64.toArray).size=64:=rfl
   go_wp2_with (go_at_call 35;refine (digits_ref _).mono ?_;rintro e w' ⟨rfl,rfl⟩)
   go_ret
   exact ⟨r1 (vS HX.out),rfl⟩
theorem own_row {B:Nat} {e:TypeId} {v:Value} {l:List Nat} {w:World} (h:OwnN B e v l w):(v=.slice none 0 0∧l=[])∨∃ g cap,v=.slice (some ⟨g,0,none⟩) l.length cap∧l.length≤cap∧∀ (j x:Nat),l[j]? =some x→w.cell? ⟨g,0+j,none⟩=some (.int .i64 x):=by
 rcases h.2 with ⟨hv,h0⟩ | ⟨g,cap,cur,rfl,hg,hh,hc,_⟩
 ·exact .inl ⟨hv,List.eq_nil_of_length_eq_zero h0⟩
 ·refine .inr ⟨g,cap,rfl,hc,fun j x hj=>?_⟩
  have:=World.ownsRow.cells h (g:=g) rfl j (.int .i64 x) (by simp [natCells,hj])
  have ha:(⟨g,0,none⟩:Addr).add j=⟨g,0+j,none⟩:=by unfold Addr.add;split<;>simp_all
  rw [ha] at this;exact this
theorem add_at (g o k:Nat):(⟨g,o,none⟩:Addr).add k=⟨g,o+k,none⟩:=by unfold Addr.add;split<;>simp_all
set_option maxHeartbeats 2000000 in
theorem encode_ref (s:ByteArray) (w:World) (hs:s.size≤1000000):Calls Tryd.prog 10 #[.string s] w (Ret (.string ⟨(padTo4 (digs (bitsL s.data.toList))).toArray⟩) w):=by
 have hlen:(bitsL s.data.toList).length=8 * s.size:=bitsL_len _
 have hbit:=bitsL_bits s.data.toList
 have hds:=digs_len (8 * s.size) (bitsL s.data.toList) (by omega)
 have hbits:=bits_ref s w hs
 generalize bitsL s.data.toList=L at *
 have HBI:=Lib.hid hbits;have HB:=Lib.hid hbit;clear hbits hbit
 go_enter Tryd.func10,Tryd.ntmps10
 go_wp2_with (go_at_call 19;refine HBI.out.mono ?_;rintro e w1 ⟨v,rfl,hown,hb1⟩)
 obtain ⟨a0,n0,cap0,rfl,hn0,hc0,hr0⟩:∃ a0 n0 cap0,v=.slice a0 n0 cap0∧n0=L.length∧n0≤cap0∧(n0=0∨∃ g o,a0=some ⟨g,o,none⟩∧∀ (j x:Nat),L[j]? =some x→w1.cell? ⟨g,o+j,none⟩=some (.int .i64 x)):=by
  rcases own_row hown with ⟨rfl,rfl⟩ | ⟨g,cap,rfl,hc,hr⟩
  ·exact ⟨_,_,_,rfl,rfl,Nat.le_refl _,.inl rfl⟩
  ·exact ⟨_,_,_,rfl,rfl,hc,.inr ⟨g,0,rfl,hr⟩⟩
 clear hown
 have HR0:=Lib.hid hr0;clear hr0
 have hn8:n0≤8000000:=by omega
 have HN0:=Lib.hid hn0;clear hn0 hlen
 go_loopw [3,4] (fun v t wr=>∃ (M:List Nat) (acc:List UInt8) (a:Option Addr) (n cap:Nat),v=.slice a n cap∧t=.string ⟨acc.toArray⟩∧wr=w1∧n=M.length∧n≤cap∧acc.length+n≤8000000∧Hid (∀ x∈M,x≤1)∧Hid (digs L=acc++digs M)∧Hid (n=0∨∃ g o,a=some ⟨g,o,none⟩∧∀ (j x:Nat),M[j]? =some x→w1.cell? ⟨g,o+j,none⟩=some (.int .i64 x)))
  (fun v _ _=>match v with | .slice _ n _=>n | _=>0)
 case atStart=>exact ⟨L,[],a0,n0,cap0,rfl,rfl,rfl,HN0.out,hc0,by simpa using hn8,HB,Lib.hid rfl,HR0⟩
 case round =>
  obtain ⟨M,acc,a,n,cap,rfl,rfl,rfl,hn,hcap,hn8,HM,hd,hr⟩:=hrel
  by_cases hlt:0<n
  ·rcases hr.out with h | ⟨g,o,rfl,hcell⟩
   ·omega
   have hmore:=digs_more (l:=M) (by omega)
   have hmin:min 6 ((n:Nat):Int)=((min 6 n:Nat):Int):=by omega
   have hK1:1≤min 6 n:=by omega
   have hK2:min 6 n≤n:=by omega
   have hK3:min 6 n≤6:=by omega
   have hKc:min 6 n=6∨min 6 n=n:=by omega
   have hM:=Lib.hid hn;clear hn
   generalize min 6 n=K at *
   have hmore':=Lib.hid hmore;clear hmore hr
   have hcell':=Lib.hid hcell;clear hcell
   have hadd:=add_at g o K
   have hsz1:(ByteArray.mk acc.toArray).size=acc.length:=rfl
   have hsz2:(ByteArray.mk #[dig (six M 6)]).size=1:=rfl
   by_cases hcK:cap=K
   ·subst hcK
    go_wp2_with (go_at_call 20;refine (digit_ref64 g o _ n M hM.out _ hcell'.out HM.out (by omega)).mono ?_;rintro e w' ⟨rfl,rfl⟩)
    go_roundw
    case rel =>
     refine ⟨M.drop 6,acc++[dig (six M 6)],_,_,_,rfl,vS (by simp [ByteArray.toList_data_append]),trivial,?_,by omega,?_,Lib.hid (fun x hx=>HM.out x (List.mem_of_mem_drop hx)),Lib.hid (by rw [hd.out,hmore'.out];simp),Lib.hid (.inl (by omega))⟩
     ·rw [List.length_drop,← hM.out];omega
     ·simp;omega
    case measure=>simp;omega
   ·go_wp2_with (go_at_call 20;refine (digit_ref64 g o _ n M hM.out _ hcell'.out HM.out (by omega)).mono ?_;rintro e w' ⟨rfl,rfl⟩)
    go_roundw
    case rel =>
     refine ⟨M.drop 6,acc++[dig (six M 6)],_,_,_,rfl,vS (by simp [ByteArray.toList_data_append]),trivial,?_,by omega,?_,Lib.hid (fun x hx=>HM.out x (List.mem_of_mem_drop hx)),Lib.hid (by rw [hd.out,hmore'.out];simp),Lib.hid ?_⟩
     ·rw [List.length_drop,← hM.out];omega
     ·simp;omega
     ·rcases hKc with h6 | hKn
      ·refine .inr ⟨g,o+K,by simp [hadd],fun j x hj=>?_⟩
       rw [List.getElem?_drop] at hj
       have:=hcell'.out _ _ hj
       rw [← this,h6];congr 2;omega
      ·exact .inl (by omega)
    case measure=>simp;omega
  ·have hM0:M=[]:=List.eq_nil_of_length_eq_zero (by omega)
   have hD:digs L=acc:=by rw [hd.out,hM0,digs_nil];simp
   have HD:=Lib.hid hD;clear hD
   have hpad:padTo4 (digs L)=acc++List.replicate ((4 - acc.length % 4) % 4) 61:=by rw [HD.out];rfl
   have HP:=Lib.hid hpad;clear hpad
   go_wp2
   go_loopw [4] (fun t wr1=>∃ (i:Nat) (u:ByteArray),i≤(4 - acc.length % 4) % 4∧t=.string u∧u.size=acc.length+i∧Hid (u.data.toList=acc++List.replicate i 61)∧wr1=wr)
    (fun t _=>match t with | .string b=>acc.length+4 - b.size | _=>0)
   case atStart=>exact ⟨0,_,by omega,rfl,rfl,Lib.hid (by simp),rfl⟩
   case round =>
    obtain ⟨i,u,hi,rfl,hu,hul,rfl⟩:=hrel
    by_cases hip:i<(4 - acc.length % 4) % 4
    ·have hne:¬ ((acc.length:Int)+i) % 4=0:=by omega
     go_wp2
     go_roundw
     case rel=>exact ⟨i+1,_,by omega,rfl,by rw [ByteArray.size_append,hu];rfl,Lib.hid (by rw [ByteArray.toList_data_append,hul.out,List.replicate_succ',List.append_assoc]),trivial⟩
     case measure =>
      have h1:(ByteArray.mk #[61]).size=1:=rfl
      simp only [ByteArray.size_append,h1];omega
    ·have hne:((acc.length:Int)+i) % 4=0:=by omega
     have hip':i=(4 - acc.length % 4) % 4:=by omega
     have hfin:u.data.toList=padTo4 (digs L):=by rw [hul.out,HP.out,hip']
     have HF:=Lib.hid hfin;clear hfin hip'
     go_wp2
     go_ret
     exact ⟨r1 (vS HF.out),hb1⟩
end Go.Proofs.YtmpiobfdchlikaaDoor
end
section
namespace Nun
theorem bits_hi2:∀ a:UInt8,32 * (a.toNat / 128 % 2)+16 * (a.toNat / 64 % 2)+8 * (a.toNat / 32 % 2)+4 * (a.toNat / 16 % 2)+2 * (a.toNat / 8 % 2)+a.toNat / 4 % 2=a.toNat / 4:=by decide +kernel
theorem bits_lo2:∀ a:UInt8,2 * (a.toNat / 2 % 2)+a.toNat % 2=a.toNat % 4:=by decide +kernel
theorem bits_hi4:∀ a:UInt8,8 * (a.toNat / 128 % 2)+4 * (a.toNat / 64 % 2)+2 * (a.toNat / 32 % 2)+a.toNat / 16 % 2=a.toNat / 16:=by decide +kernel
theorem bits_lo4:∀ a:UInt8,8 * (a.toNat / 8 % 2)+4 * (a.toNat / 4 % 2)+2 * (a.toNat / 2 % 2)+a.toNat % 2=a.toNat % 16:=by decide +kernel
theorem bits_hi6:∀ a:UInt8,2 * (a.toNat / 128 % 2)+a.toNat / 64 % 2=a.toNat / 64:=by decide +kernel
theorem bits_lo6:∀ a:UInt8,32 * (a.toNat / 32 % 2)+16 * (a.toNat / 16 % 2)+8 * (a.toNat / 8 % 2)+4 * (a.toNat / 4 % 2)+2 * (a.toNat / 2 % 2)+a.toNat % 2=a.toNat % 64:=by decide +kernel
theorem bitsL_cons (c:UInt8) (l:List UInt8):bitsL (c::l)=bits8 c++bitsL l:=rfl
theorem num3 (a b c:UInt8) (l:List UInt8):num (a::b::c::l) 3=(a.toNat * 256+b.toNat) * 256+c.toNat:=by simp [num]
theorem num2 (a b:UInt8):num [a,b] 3=(a.toNat * 256+b.toNat) * 256:=by simp [num]
theorem num1 (a:UInt8):num [a] 3=a.toNat * 256 * 256:=by simp [num]
theorem digs_six (x0 x1 x2 x3 x4 x5:Nat) (l:List Nat):digs (x0::x1::x2::x3::x4::x5::l)=dig (32 * x0+16 * x1+8 * x2+4 * x3+2 * x4+x5)::digs l:=by
 rw [digs_more (by simp)]
 have:six (x0::x1::x2::x3::x4::x5::l) 6=32 * x0+16 * x1+8 * x2+4 * x3+2 * x4+x5:=by simp [six];omega
 rw [this];rfl
theorem digs_group (a b c:UInt8) (l:List UInt8):digs (bitsL (a::b::c::l))=quad (a::b::c::l)++digs (bitsL l):=by
 have ha:=a.toNat_lt;have hb:=b.toNat_lt;have hc:=c.toNat_lt
 rw [bitsL_cons,bitsL_cons,bitsL_cons]
 unfold bits8
 simp only [List.cons_append,List.nil_append]
 rw [digs_six,digs_six,digs_six,digs_six]
 unfold quad
 rw [if_neg (by simp),if_neg (by simp),num3]
 have e0:((a.toNat * 256+b.toNat) * 256+c.toNat) / 262144 % 64=a.toNat / 4:=by omega
 have e1:((a.toNat * 256+b.toNat) * 256+c.toNat) / 4096 % 64=16 * (a.toNat % 4)+b.toNat / 16:=by omega
 have e2:((a.toNat * 256+b.toNat) * 256+c.toNat) / 64 % 64=4 * (b.toNat % 16)+c.toNat / 64:=by omega
 have e3:((a.toNat * 256+b.toNat) * 256+c.toNat) % 64=c.toNat % 64:=by omega
 rw [e0,e1,e2,e3]
 have h0:=bits_hi2 a;have h1:=bits_lo2 a;have h2:=bits_hi4 b;have h3:=bits_lo4 b;have h4:=bits_hi6 c;have h5:=bits_lo6 c
 simp only [List.cons_append,List.nil_append,List.cons.injEq]
 refine ⟨by congr 1,by congr 1;omega,by congr 1;omega,by congr 1,trivial⟩
theorem digs_few (l:List Nat) (h:0<l.length) (h6:l.length≤6):digs l=[dig (six l 6)]:=by
 rw [digs_more h,List.drop_of_length_le h6,digs_nil]
theorem padTo4_app (x y:List UInt8) (h:x.length=4):padTo4 (x++y)=x++padTo4 y:=by
 unfold padTo4;rw [List.length_append,h,show (4+y.length) % 4=y.length % 4 by omega,List.append_assoc]
theorem tail1 (a:UInt8):padTo4 (digs (bitsL [a]))=quad [a]:=by
 have ha:=a.toNat_lt
 have h0:=bits_hi2 a;have h1:=bits_lo2 a
 show padTo4 (digs (bits8 a))=_
 unfold bits8
 rw [digs_six,digs_few _ (by simp) (by simp)]
 have e:six [a.toNat / 2 % 2,a.toNat % 2] 6=16 * (a.toNat % 4):=by simp [six];omega
 rw [e,h0]
 unfold quad
 rw [if_pos (by simp),if_pos (by simp),num1]
 have e0:a.toNat * 256 * 256 / 262144 % 64=a.toNat / 4:=by omega
 have e1:a.toNat * 256 * 256 / 4096 % 64=16 * (a.toNat % 4):=by omega
 rw [e0,e1];rfl
theorem tail2 (a b:UInt8):padTo4 (digs (bitsL [a,b]))=quad [a,b]:=by
 have ha:=a.toNat_lt;have hb:=b.toNat_lt
 have h0:=bits_hi2 a;have h1:=bits_lo2 a;have h2:=bits_hi4 b;have h3:=bits_lo4 b
 show padTo4 (digs (bits8 a++bits8 b))=_
 unfold bits8
 simp only [List.cons_append,List.nil_append]
 rw [digs_six,digs_six,digs_few _ (by simp) (by simp)]
 have e:six [b.toNat / 8 % 2,b.toNat / 4 % 2,b.toNat / 2 % 2,b.toNat % 2] 6=4 * (b.toNat % 16):=by simp [six];omega
 rw [e,h0]
 unfold quad
 rw [if_neg (by simp),if_pos (by simp),num2]
 have e0:(a.toNat * 256+b.toNat) * 256 / 262144 % 64=a.toNat / 4:=by omega
 have e1:(a.toNat * 256+b.toNat) * 256 / 4096 % 64=16 * (a.toNat % 4)+b.toNat / 16:=by omega
 have e2:(a.toNat * 256+b.toNat) * 256 / 64 % 64=4 * (b.toNat % 16):=by omega
 have f1:32 * (a.toNat / 2 % 2)+16 * (a.toNat % 2)+8 * (b.toNat / 128 % 2)+4 * (b.toNat / 64 % 2)+2 * (b.toNat / 32 % 2)+b.toNat / 16 % 2=16 * (a.toNat % 4)+b.toNat / 16:=by omega
 rw [e0,e1,e2,f1];rfl
theorem enc_law (n:Nat):∀ l:List UInt8,l.length≤n→padTo4 (digs (bitsL l))=enc64 l:=by
 induction n with
 | zero =>
   intro l h
   have:l=[]:=List.eq_nil_of_length_eq_zero (by omega)
   subst this
   show padTo4 (digs [])=_
   rw [digs_nil];rfl
 | succ n ih =>
   intro l h
   match l,h with
   | [],_=>show padTo4 (digs [])=_;rw [digs_nil];rfl
   | [a],_=>exact tail1 a
   | [a,b],_=>exact tail2 a b
   | a::b::c::l,h =>
     rw [digs_group,padTo4_app _ _ rfl,ih l (by simp at h;omega),enc64_step (a::b::c::l) (by simp)];rfl
theorem val_dig':∀ i:Fin 64,val64 (dig i.1)=some i.1:=by decide +kernel
theorem val_dig {n:Nat} (h:n<64):val64 (dig n)=some n:=val_dig' ⟨n,h⟩
theorem dig_ne':∀ i:Fin 64,dig i.1≠61:=by decide +kernel
theorem dig_ne {n:Nat} (h:n<64):dig n≠61:=dig_ne' ⟨n,h⟩
theorem fourN4 {p0 p1 p2 p3:UInt8} {x0 x1 x2 x3:Nat} (h0:val64 p0=some x0) (h1:val64 p1=some x1) (h2:val64 p2=some x2) (h3:val64 p3=some x3) :
 fourN [p0,p1,p2,p3] 4 4=some (((x0 * 64+x1) * 64+x2) * 64+x3):=by simp [fourN,h0,h1,h2,h3]
theorem fourN3 {p0 p1 p2 p3:UInt8} {x0 x1 x2:Nat} (h0:val64 p0=some x0) (h1:val64 p1=some x1) (h2:val64 p2=some x2) :
 fourN [p0,p1,p2,p3] 3 4=some (((x0 * 64+x1) * 64+x2) * 64):=by simp [fourN,h0,h1,h2]
theorem fourN2 {p0 p1 p2 p3:UInt8} {x0 x1:Nat} (h0:val64 p0=some x0) (h1:val64 p1=some x1) :
 fourN [p0,p1,p2,p3] 2 4=some (((x0 * 64+x1) * 64) * 64):=by simp [fourN,h0,h1]
theorem dec64_quad (x l:List UInt8):dec64 (quad x++l)=if (fourV (quad x) l.isEmpty).2 then (dec64 l).map ((fourV (quad x) l.isEmpty).1++·) else none:=rfl
theorem u8_eq (a:UInt8) (n:Nat) (h:n % 256=a.toNat):UInt8.ofNat n=a:=by
 apply UInt8.toNat_inj.1;simp [h]
theorem fourV_quad3 (a b c:UInt8) (l:List UInt8) (last:Bool):fourV (quad (a::b::c::l)) last=([a,b,c],true):=by
 have ha:=a.toNat_lt;have hb:=b.toNat_lt;have hc:=c.toNat_lt
 have hq:quad (a::b::c::l)=[dig (num (a::b::c::l) 3 / 262144 % 64),dig (num (a::b::c::l) 3 / 4096 % 64),dig (num (a::b::c::l) 3 / 64 % 64),dig (num (a::b::c::l) 3 % 64)]:=by
  unfold quad;rw [if_neg (by simp),if_neg (by simp)]
 rw [hq,num3]
 generalize hN:(a.toNat * 256+b.toNat) * 256+c.toNat=N
 have hK:fourK [dig (N / 262144 % 64),dig (N / 4096 % 64),dig (N / 64 % 64),dig (N % 64)] last=4:=by
  unfold fourK;rw [if_neg];intro h;exact dig_ne (n:=N % 64) (by omega) (by simpa using h.2)
 unfold fourV
 rw [hK,fourN4 (val_dig (by omega)) (val_dig (by omega)) (val_dig (by omega)) (val_dig (by omega))]
 have e:((N / 262144 % 64 * 64+N / 4096 % 64) * 64+N / 64 % 64) * 64+N % 64=N:=by omega
 simp only [e]
 rw [u8_eq a (N / 65536) (by omega),u8_eq b (N / 256) (by omega),u8_eq c N (by omega)]
 simp
 omega
theorem fourV_quad2 (a b:UInt8):fourV (quad [a,b]) true=([a,b],true):=by
 have ha:=a.toNat_lt;have hb:=b.toNat_lt
 have hq:quad [a,b]=[dig (num [a,b] 3 / 262144 % 64),dig (num [a,b] 3 / 4096 % 64),dig (num [a,b] 3 / 64 % 64),61]:=by
  unfold quad;rw [if_neg (by simp),if_pos (by simp)]
 rw [hq,num2]
 generalize hN:(a.toNat * 256+b.toNat) * 256=N
 have hK:fourK [dig (N / 262144 % 64),dig (N / 4096 % 64),dig (N / 64 % 64),61] true=3:=by
  unfold fourK;rw [if_pos (by simp),if_neg];intro h;exact dig_ne (n:=N / 64 % 64) (by omega) (by simpa using h)
 unfold fourV
 rw [hK,fourN3 (val_dig (by omega)) (val_dig (by omega)) (val_dig (by omega))]
 have e:((N / 262144 % 64 * 64+N / 4096 % 64) * 64+N / 64 % 64) * 64=N:=by omega
 simp only [e]
 rw [u8_eq a (N / 65536) (by omega),u8_eq b (N / 256) (by omega)]
 simp
 omega
theorem fourV_quad1 (a:UInt8):fourV (quad [a]) true=([a],true):=by
 have ha:=a.toNat_lt
 have hq:quad [a]=[dig (num [a] 3 / 262144 % 64),dig (num [a] 3 / 4096 % 64),61,61]:=by
  unfold quad;rw [if_pos (by simp),if_pos (by simp)]
 rw [hq,num1]
 generalize hN:a.toNat * 256 * 256=N
 have hK:fourK [dig (N / 262144 % 64),dig (N / 4096 % 64),61,61] true=2:=by
  unfold fourK;rw [if_pos (by simp),if_pos (by simp)]
 unfold fourV
 rw [hK,fourN2 (val_dig (by omega)) (val_dig (by omega))]
 have e:((N / 262144 % 64 * 64+N / 4096 % 64) * 64) * 64=N:=by omega
 simp only [e]
 rw [u8_eq a (N / 65536) (by omega)]
 simp
 omega
theorem dec_enc (n:Nat):∀ l:List UInt8,l.length≤n→dec64 (enc64 l)=some l:=by
 induction n with
 | zero =>
   intro l h
   have:l=[]:=List.eq_nil_of_length_eq_zero (by omega)
   subst this;rfl
 | succ n ih =>
   intro l h
   match l,h with
   | [],_=>rfl
   | [a],_=>show dec64 (quad [a]++[])=_;rw [dec64_quad];rw [show ([]:List UInt8).isEmpty=true from rfl,fourV_quad1];rfl
   | [a,b],_=>show dec64 (quad [a,b]++[])=_;rw [dec64_quad];rw [show ([]:List UInt8).isEmpty=true from rfl,fourV_quad2];rfl
   | a::b::c::l,h =>
     show dec64 (quad [a,b,c]++enc64 l)=_
     rw [dec64_quad,fourV_quad3,ih l (by simp at h;omega)];rfl
end Nun
end
section
set_option maxRecDepth 100000
namespace Nun
open Go
theorem index_at:∀ (p w r:Str),w≠[]→(∀ i,i<p.length→w.isPrefixOf (p.drop i++(w++r))=false)→Lib.index (p++(w++r)) w=(p.length:Int)
 | [],w,r,hw,h=>by
   have hp:w.isPrefixOf (w++r)=true:=by rw [List.isPrefixOf_iff_prefix];exact List.prefix_append w r
   cases w with
   | nil=>exact absurd rfl hw
   | cons a w =>
     rw [List.nil_append,List.cons_append]
     rw [List.cons_append] at hp
     unfold Lib.index
     rw [if_pos hp];rfl
 | c::p,w,r,hw,h=>by
   have ih:=index_at p w r hw fun i hi=>h (i+1) (by simp;omega)
   have h0:=h 0 (by simp)
   rw [List.drop_zero,List.cons_append] at h0
   rw [List.cons_append]
   unfold Lib.index
   rw [h0,ih]
   have:((p.length:Int) == -1)=false:=by rw [beq_eq_false_iff_ne];omega
   simp only [Bool.false_eq_true,if_false,this,List.length_cons]
   omega
def mkS:Str:=[61,95,110,117,110,99,105,111]
theorem index_mark (p r:Str) (h:noEq p=true):Lib.index (p++(lineP mkS++r)) (lineP mkS)=(p.length:Int):=by
 refine index_at p _ r (by decide) fun i hi=>?_
 have hx:p.drop i≠[]:=fun e=>by have:=congrArg List.length e;rw [List.length_drop] at this;simp at this;omega
 have:=no_mark (w:=[110,117,110,99,105,111]) (r:=[10,45,45]++mkS++r) hx (noEq_drop p i h)
 exact this
theorem boT_part {pre p r:Str} {out:List Str} (h:noEq p=true):boT (pre++(p++(lineP mkS++([13,10]++r)))) (lineP mkS) (out,pre.length,pre.length)=.inl (out++[p],(pre++p++lineP mkS++[13,10]).length,(pre++p++lineP mkS++[13,10]).length):=by
 have hd:(pre++(p++(lineP mkS++([13,10]++r)))).drop pre.length=p++(lineP mkS++([13,10]++r)):=by simp
 have hi:=index_mark p ([13,10]++r) h
 have hne:¬ ((p.length:Int)=-1):=by omega
 have hb:(pre++(p++(lineP mkS++([13,10]++r)))).drop (pre.length+p.length+(lineP mkS).length)=[13,10]++r:=by
  have e:pre++(p++(lineP mkS++([13,10]++r)))=(pre++p++lineP mkS)++([13,10]++r):=by simp only [List.append_assoc]
  rw [e,show pre.length+p.length+(lineP mkS).length=(pre++p++lineP mkS).length by simp only [List.length_append]]
  exact List.drop_left
 have ht:((pre++(p++(lineP mkS++([13,10]++r)))).take (pre.length+p.length)).drop pre.length=p:=by
  rw [← List.append_assoc,show pre.length+p.length=(pre++p).length by simp only [List.length_append],List.take_left]
  exact List.drop_left
 unfold boT
 dsimp only
 rw [hd,hi,if_neg hne,Int.toNat_natCast,hb,ht]
 have h1:([45,45,13,10]:Str).isPrefixOf ([13,10]++r)=false:=rfl
 have h2:([13,10]:Str).isPrefixOf ([13,10]++r)=true:=by simp [List.isPrefixOf]
 rw [h1,h2]
 simp only [Bool.false_eq_true,if_false,if_true,List.length_append,List.length_cons,List.length_nil]
theorem boT_last {pre p:Str} {out:List Str} (h:noEq p=true):boT (pre++(p++(lineP mkS++[45,45,13,10]))) (lineP mkS) (out,pre.length,pre.length)=.inr (some (out++[p])):=by
 have hd:(pre++(p++(lineP mkS++[45,45,13,10]))).drop pre.length=p++(lineP mkS++[45,45,13,10]):=by simp
 have hi:=index_mark p [45,45,13,10] h
 have hne:¬ ((p.length:Int)=-1):=by omega
 have hb:(pre++(p++(lineP mkS++[45,45,13,10]))).drop (pre.length+p.length+(lineP mkS).length)=[45,45,13,10]:=by
  have e:pre++(p++(lineP mkS++[45,45,13,10]))=(pre++p++lineP mkS)++[45,45,13,10]:=by simp only [List.append_assoc]
  rw [e,show pre.length+p.length+(lineP mkS).length=(pre++p++lineP mkS).length by simp only [List.length_append]]
  exact List.drop_left
 have ht:((pre++(p++(lineP mkS++[45,45,13,10]))).take (pre.length+p.length)).drop pre.length=p:=by
  rw [← List.append_assoc,show pre.length+p.length=(pre++p).length by simp only [List.length_append],List.take_left]
  exact List.drop_left
 unfold boT
 dsimp only
 rw [hd,hi,if_neg hne,Int.toNat_natCast,hb,ht]
 rfl
def body3 (p q t:Str):Str:=[45,45]++mkS++[13,10]++(p++(lineP mkS++([13,10]++(q++(lineP mkS++([13,10]++(t++(lineP mkS++[45,45,13,10]))))))))
theorem bodies_three (p q t:Str) (hp:noEq p=true) (hq:noEq q=true) (ht:noEq t=true):bodiesP (body3 p q t) mkS=some [p,q,t]:=by
 have hpre:(lineP mkS++[13,10]).isPrefixOf ([13,10]++body3 p q t)=true:=by
  rw [List.isPrefixOf_iff_prefix]
  exact ⟨_,rfl⟩
 obtain ⟨R,hR⟩:∃ R,R=p++(lineP mkS++([13,10]++(q++(lineP mkS++([13,10]++(t++(lineP mkS++[45,45,13,10]))))))):=⟨_,rfl⟩
 have hd:([13,10]++body3 p q t).drop (lineP mkS++[13,10]).length=R:=by rw [hR];rfl
 unfold bodiesP
 rw [if_pos hpre,hd]
 obtain ⟨n,hn⟩:∃ n,(body3 p q t).length+1=n+3:=⟨(body3 p q t).length - 2,by have:2≤(body3 p q t).length:=(by simp [body3]);omega⟩
 rw [hn]
 have e1:R=[]++(p++(lineP mkS++([13,10]++(q++(lineP mkS++([13,10]++(t++(lineP mkS++[45,45,13,10])))))))):=by rw [hR];rfl
 have s1:=boT_part (pre:=[]) (out:=[]) (r:=q++(lineP mkS++([13,10]++(t++(lineP mkS++[45,45,13,10]))))) hp
 rw [← e1] at s1
 rw [show ([]:Str).length=0 from rfl] at s1
 rw [runS_inl (n:=n+2) s1]
 have e2:R=([]++p++lineP mkS++[13,10])++(q++(lineP mkS++([13,10]++(t++(lineP mkS++[45,45,13,10]))))):=by rw [hR];simp only [List.append_assoc,List.nil_append]
 obtain ⟨pre2,hpre2⟩:∃ x,[]++p++lineP mkS++[13,10]=x:=⟨_,rfl⟩
 rw [hpre2] at e2 ⊢
 have s2:=boT_part (pre:=pre2) (out:=[]++[p]) (r:=t++(lineP mkS++[45,45,13,10])) hq
 rw [← e2] at s2
 rw [runS_inl (n:=n+1) s2]
 have e3:R=(pre2++q++lineP mkS++[13,10])++(t++(lineP mkS++[45,45,13,10])):=by rw [e2];simp only [List.append_assoc]
 obtain ⟨pre3,hpre3⟩:∃ x,pre2++q++lineP mkS++[13,10]=x:=⟨_,rfl⟩
 rw [hpre3] at e3 ⊢
 have s3:=boT_last (pre:=pre3) (out:=([]++[p])++[q]) ht
 rw [← e3] at s3
 rw [runS_inr (n:=n) s3]
 rfl
theorem leaf_p {rec:Option (Str→Nat→Except Nat (LP × Nat))} {s:Str} {n:Nat} {F:List Fld} {at_:Nat} {ty mk t:Str} (h1:splitL s=.ok F at_) (h2:kindP F=.ok (ty,mk)) (h3:sMulti.isPrefixOf ty=false) (h4:saidP (s.drop at_) (codP F)=some t):letterH rec s n=.ok (.mk F ty t [],n):=by
 unfold letterH
 rw [h1];dsimp only
 rw [h2];dsimp only
 rw [if_pos h3,h4]
theorem drop_line2 (a:Str) (r:Str):(a++13::10::r).drop (a.length+2)=r:=by
 rw [List.drop_append];simp
def cteQ:Str:=[67,111,110,116,101,110,116,45,84,114,97,110,115,102,101,114,45,69,110,99,111,100,105,110,103,58,32,113,117,111,116,101,100,45,112,114,105,110,116,97,98,108,101]
def ctH:Str:=[67,111,110,116,101,110,116,45,84,121,112,101,58,32,116,101,120,116,47,104,116,109,108]
def cteB:Str:=[67,111,110,116,101,110,116,45,84,114,97,110,115,102,101,114,45,69,110,99,111,100,105,110,103,58,32,98,97,115,101,54,52]
def ctM:Str:=[67,111,110,116,101,110,116,45,84,121,112,101,58,32,109,117,108,116,105,112,97,114,116,47,109,105,120,101,100,59,32,98,111,117,110,100,97,114,121,61,34,61,95,110,117,110,99,105,111,34]
def qpPart (s:Str):Str:=linesU [cteQ]++13::10::encL 0 s
def b64Part (s:Str):Str:=linesU [ctH,cteB]++13::10::wrapL 75 (enc64 s)
def qpF:List Fld:=[([67,111,110,116,101,110,116,45,84,114,97,110,115,102,101,114,45,69,110,99,111,100,105,110,103],sQp)]
def b64F:List Fld:=[([67,111,110,116,101,110,116,45,84,121,112,101],[116,101,120,116,47,104,116,109,108]),([67,111,110,116,101,110,116,45,84,114,97,110,115,102,101,114,45,69,110,99,111,100,105,110,103],sB64)]
def mixF:List Fld:=[([67,111,110,116,101,110,116,45,84,121,112,101],[109,117,108,116,105,112,97,114,116,47,109,105,120,101,100,59,32,98,111,117,110,100,97,114,121,61,34,61,95,110,117,110,99,105,111,34])]
def mixDoc (p q t:Str):Str:=linesU [ctM]++13::10::body3 p q t
theorem qp_leaf (rec:Option (Str→Nat→Except Nat (LP × Nat))) (s:Str) (n:Nat):letterH rec (qpPart s) n=.ok (.mk qpF sPlain s [],n):=by
 have h1:splitL (qpPart s)=.ok qpF ((linesU [cteQ]).length+2):=split_lines [cteQ] (encL 0 s) [([67,111,110,116,101,110,116,45,84,114,97,110,115,102,101,114,45,69,110,99,111,100,105,110,103],[32,113,117,111,116,101,100,45,112,114,105,110,116,97,98,108,101])] (by decide) (by kernel_rfl)
 refine leaf_p h1 (mk:=[]) (by kernel_rfl) (by decide) ?_
 have h2:codP qpF=sQp:=by kernel_rfl
 unfold qpPart
 rw [drop_line2,h2]
 unfold saidP
 rw [if_neg (by decide),if_pos rfl]
 exact decL_encL s 0
theorem b64_leaf (rec:Option (Str→Nat→Except Nat (LP × Nat))) (s:Str) (n:Nat):letterH rec (b64Part s) n=.ok (.mk b64F [116,101,120,116,47,104,116,109,108] s [],n):=by
 have h1:splitL (b64Part s)=.ok b64F ((linesU [ctH,cteB]).length+2):=split_lines [ctH,cteB] (wrapL 75 (enc64 s)) [([67,111,110,116,101,110,116,45,84,121,112,101],[32,116,101,120,116,47,104,116,109,108]),([67,111,110,116,101,110,116,45,84,114,97,110,115,102,101,114,45,69,110,99,111,100,105,110,103],[32,98,97,115,101,54,52])] (by decide) (by kernel_rfl)
 refine leaf_p h1 (mk:=[]) (by kernel_rfl) (by decide) ?_
 have h2:codP b64F=sB64:=by kernel_rfl
 unfold b64Part
 rw [drop_line2,h2]
 unfold saidP
 rw [if_neg (by decide),if_neg (by decide),if_pos rfl,bare_wrap 75 _ _ (Nat.le_refl _) (enc64_hard _ s (Nat.le_refl _))]
 exact dec_enc _ s (Nat.le_refl _)
theorem noEq_no61:∀ x:Str,(∀ c∈x,c≠95)→noEq x=true
 | [],_=>rfl
 | c::x,h=>by
   rw [noEq,noEq_no61 x fun d hd=>h d (by simp [hd]),Bool.and_true]
   have:(x.head? == some 95)=false:=by
    cases x with
    | nil=>rfl
    | cons d x=>simpa using h d (by simp)
   rw [this,Bool.and_false];rfl
theorem noEq_qp (s:Str):noEq (qpPart s)=true:=by
 unfold qpPart
 exact noEq_app _ _ (by decide) (by show noEq (13::10::encL 0 s)=true;rw [noEq_one (by decide),noEq_one (by decide)];exact noEq_enc s 0) (.inl (by decide))
theorem dig_95 (n:Nat):dig n≠95:=by
 by_cases h:n<64
 ·exact (show ∀ i:Fin 64,dig i.1≠95 by decide +kernel) ⟨n,h⟩
 ·unfold dig;rw [List.getD_eq_getElem?_getD,List.getElem?_eq_none (by show 64≤n;omega)];decide
theorem quad_95 (l:List UInt8):∀ c∈quad l,c≠95:=by
 intro c hc
 unfold quad at hc
 simp only [List.mem_cons,List.not_mem_nil,or_false] at hc
 rcases hc with rfl | rfl | rfl | rfl
 ·exact dig_95 _
 ·exact dig_95 _
 ·split
  ·decide
  ·exact dig_95 _
 ·split
  ·decide
  ·exact dig_95 _
theorem enc64_95 (n:Nat):∀ l:List UInt8,l.length≤n→∀ c∈enc64 l,c≠95:=by
 induction n with
 | zero =>
   intro l h
   have:l=[]:=List.eq_nil_of_length_eq_zero (by omega)
   subst this;simp [enc64]
 | succ n ih =>
   intro l h
   match l,h with
   | [],_=>simp [enc64]
   | [a],_=>exact quad_95 [a]
   | [a,b],_=>exact quad_95 [a,b]
   | a::b::c::l,h =>
     intro x hx
     rw [enc64,List.mem_append] at hx
     rcases hx with hx | hx
     ·exact quad_95 _ x hx
     ·exact ih l (by simp at h;omega) x hx
theorem wrap_95 (m n:Nat):∀ l:List UInt8,l.length≤n→(∀ c∈l,c≠95)→∀ c∈wrapL m l,c≠95:=by
 induction n with
 | zero=>intro l h hl;rw [wrapL_end (by omega)];exact hl
 | succ n ih =>
   intro l h hl
   by_cases hm:m+1<l.length
   ·rw [wrapL_more hm]
    intro c hc
    rcases List.mem_append.1 hc with hc | hc
    ·rcases List.mem_append.1 hc with hc | hc
     ·exact hl c (List.mem_of_mem_take hc)
     ·simp at hc;rcases hc with rfl | rfl<;>decide
    ·exact ih (l.drop (m+1)) (by rw [List.length_drop];omega) (fun c h=>hl c (List.mem_of_mem_drop h)) c hc
   ·rw [wrapL_end hm];exact hl
theorem noEq_b64 (s:Str):noEq (b64Part s)=true:=by
 unfold b64Part
 exact noEq_app _ _ (by decide) (by
  show noEq (13::10::wrapL 75 (enc64 s))=true
  rw [noEq_one (by decide),noEq_one (by decide)]
  exact noEq_no61 _ (wrap_95 75 _ _ (Nat.le_refl _) (enc64_95 _ s (Nat.le_refl _)))) (.inl (by decide))
theorem holds_p (a b c:Str):letterP 4 (mixDoc (qpPart a) (b64Part b) (qpPart c)) 0=.ok (.mk mixF [109,117,108,116,105,112,97,114,116,47,109,105,120,101,100] [] [.mk qpF sPlain a [],.mk b64F [116,101,120,116,47,104,116,109,108] b [],.mk qpF sPlain c []],3):=by
 have h1:splitL (mixDoc (qpPart a) (b64Part b) (qpPart c))=.ok mixF ((linesU [ctM]).length+2):=split_lines [ctM] _ [([67,111,110,116,101,110,116,45,84,121,112,101],[32,109,117,108,116,105,112,97,114,116,47,109,105,120,101,100,59,32,98,111,117,110,100,97,114,121,61,34,61,95,110,117,110,99,105,111,34])] (by decide) (by kernel_rfl)
 have h2:kindP mixF=.ok ([109,117,108,116,105,112,97,114,116,47,109,105,120,101,100],mkS):=by kernel_rfl
 have h3:codP mixF=s7bit:=by kernel_rfl
 have h4:markU mkS=true:=by kernel_rfl
 have h5:(mixDoc (qpPart a) (b64Part b) (qpPart c)).drop ((linesU [ctM]).length+2)=body3 (qpPart a) (b64Part b) (qpPart c):=drop_line2 _ _
 show letterH (some (letterP 3)) _ 0=_
 unfold letterH
 rw [h1];dsimp only
 rw [h2];dsimp only
 rw [if_neg (by decide),if_pos ⟨h3,h4⟩,h5,bodies_three _ _ _ (noEq_qp a) (noEq_b64 b) (noEq_qp c)]
 dsimp only
 rw [if_pos (by show 0+3≤64;omega)]
 have g1:∀ s n,letterP 3 (qpPart s) n=.ok (.mk qpF sPlain s [],n):=fun s n=>qp_leaf _ s n
 have g2:∀ s n,letterP 3 (b64Part s) n=.ok (.mk b64F [116,101,120,116,47,104,116,109,108] s [],n):=fun s n=>b64_leaf _ s n
 simp only [listP,g1,g2]
 rfl
theorem encL_short:∀ (s:Str) (line:Nat),72 * (encL line s).length≤225 * s.length+3 * line
 | [],line=>by simp [encL]
 | c::t,line=>by
   have hp:=piece_len c t
   rw [encL]
   split
   ·have:=encL_short t 0
    simp only [List.length_cons];omega
   ·split
    ·have:=encL_short t (piece c t).length
     simp only [List.length_append,List.length_cons,List.length_nil];omega
    ·have:=encL_short t (line+(piece c t).length)
     simp only [List.length_append,List.length_cons];omega
theorem wrap_short (n:Nat):∀ l:List UInt8,l.length≤n→38 * (wrapL 75 l).length≤39 * l.length:=by
 induction n with
 | zero=>intro l h;rw [wrapL_end (by omega)];omega
 | succ n ih =>
   intro l h
   by_cases hm:75+1<l.length
   ·rw [wrapL_more hm]
    have:=ih (l.drop (75+1)) (by rw [List.length_drop];omega)
    simp only [List.length_append,List.length_take,List.length_drop,List.length_cons,List.length_nil] at this ⊢;omega
   ·rw [wrapL_end hm];omega
theorem enc64_short (n:Nat):∀ l:List UInt8,l.length≤n→(enc64 l).length=(l.length+2) / 3 * 4:=by
 induction n with
 | zero=>intro l h
         have:l=[]:=List.eq_nil_of_length_eq_zero (by omega)
         subst this;simp [enc64]
 | succ n ih =>
   intro l h
   match l,h with
   | [],_=>simp [enc64]
   | [a],_=>simp [enc64,quad_len]
   | [a,b],_=>simp [enc64,quad_len]
   | a::b::c::l,h=>rw [enc64,List.length_append,quad_len,ih l (by simp at h;omega)];simp;omega
theorem doc_short (a b c:Str) (ha:a.length≤1200) (hb:b.length≤1200) (hc:c.length≤1200):(mixDoc (qpPart a) (b64Part b) (qpPart c)).length≤10000:=by
 have h1:=encL_short a 0
 have h2:=encL_short c 0
 have h3:=wrap_short _ (enc64 b) (Nat.le_refl _)
 rw [enc64_short _ b (Nat.le_refl _)] at h3
 have l1:(linesU [ctM]).length=52:=by decide
 have l2:(linesU [cteQ]).length=45:=by decide
 have l3:(linesU [ctH,cteB]).length=60:=by decide
 have l4:(lineP mkS).length=12:=by decide
 have l5:mkS.length=8:=by decide
 unfold mixDoc qpPart b64Part body3
 simp only [List.length_append,List.length_cons,List.length_nil,l1,l2,l3,l4,l5]
 omega
end Nun
end
section
set_option synthInstance.maxSize 4000
namespace Nun
def readV:Option (List UInt8)→Go.Value
 | none=>.tuple #[.string ⟨#[]⟩,.int .i64 7]
 | some l=>.tuple #[.string ⟨l.toArray⟩,.int .i64 0]
attribute [simp] readV
end Nun
namespace Go.Proofs.YtmpiobfdchlikaaDoor
open Go.RowKit Nun
end Go.Proofs.YtmpiobfdchlikaaDoor
end
section
set_option synthInstance.maxSize 4000
namespace Nun
theorem take_snoc (s:List UInt8) (k:Nat) (h:k<s.length):s.take (k+1)=s.take k++[s[k]]:=by
 rw [List.take_succ_eq_append_getElem h]
end Nun
namespace Go.Proofs.YtmpiobfdchlikaaDoor
open Go.RowKit Nun
end Go.Proofs.YtmpiobfdchlikaaDoor
end
section
namespace Nun
theorem encL_nl {s:List UInt8} {k line:Nat} (hk:k<s.length) (h:s[k]=10):encL line (s.drop k)=[13,10]++encL 0 (s.drop (k+1)):=by
 rw [List.drop_eq_getElem_cons hk,encL,if_pos h];rfl
theorem encL_wrap {s:List UInt8} {k line:Nat} (hk:k<s.length) (h:s[k]≠10) {p:List UInt8} (hp:piece s[k] (s.drop (k+1))=p) (hl:line+p.length > 75):encL line (s.drop k)=[61,13,10]++p++encL p.length (s.drop (k+1)):=by
 rw [List.drop_eq_getElem_cons hk,encL,if_neg h,hp,if_pos hl];simp
theorem encL_on {s:List UInt8} {k line:Nat} (hk:k<s.length) (h:s[k]≠10) {p:List UInt8} (hp:piece s[k] (s.drop (k+1))=p) (hl:¬ line+p.length > 75):encL line (s.drop k)=p++encL (line+p.length) (s.drop (k+1)):=by
 rw [List.drop_eq_getElem_cons hk,encL,if_neg h,hp,if_neg hl]
end Nun
namespace Go.Proofs.YtmpiobfdchlikaaDoor
open Go.RowKit Nun
theorem piece_of (s:ByteArray) (k:Nat) (p:List UInt8) (w:World) (hs:s.size≤1000000000) (hk:k<s.size) (h:piece s[k] (s.data.toList.drop (k+1))=p):Calls Tryd.prog 18 #[.string s,.int .i64 k] w (Ret (.string ⟨p.toArray⟩) w):=h ▸ piece_ref s k w hs hk
set_option maxHeartbeats 2000000 in
set_option maxRecDepth 100000 in
theorem enc_ref (s:ByteArray) (w:World) (hs:s.size≤1000000):Calls Tryd.prog 8 #[.string s] w (Ret (.string ⟨(encL 0 s.data.toList).toArray⟩) w):=by
 go_enter Tryd.func8,Tryd.ntmps8
 go_wp2
 go_loopw [3,4,5,6] (fun v l i _ wr=>∃ (k line:Nat) (acc:List UInt8),k≤s.size∧line≤75∧i=.int .i64 k∧l=.int .i64 line∧v=.string ⟨acc.toArray⟩∧acc.length≤6 * k∧Below w.heap.size w wr∧Hid (encL 0 s.data.toList=acc++encL line (s.data.toList.drop k)))
  (fun _ _ i _ _=>s.size - (intOf i).toNat)
 case atStart=>exact ⟨0,0,[],Nat.zero_le _,by omega,rfl,rfl,rfl,by simp,Below.refl _ _,Lib.hid (by simp)⟩
 case round =>
  obtain ⟨k,line,acc,hk,hline,rfl,rfl,rfl,hak,hbel,hacc⟩:=hrel
  by_cases hlt:k<s.size
  ·by_cases h10:s[k]=10
   ·have HN:=Lib.hid (hacc.out.trans (congrArg (acc++·) (encL_nl (s:=s.data.toList) (line:=line) hlt h10)))
    have q1:((s[k].toNat:Int) == 10)=true:=by rw [h10];rfl
    clear h10 hacc
    go_wp2
    go_roundw
    case rel=>exact ⟨k+1,0,acc++[13,10],by omega,by omega,by go_num,rfl,vS (by simp [ByteArray.toList_data_append]),by simp;omega,hbel,Lib.hid (by rw [HN.out];simp)⟩
    case measure=>simp [intOf];omega
   ·have q1:((s[k].toNat:Int) == 10)=false:=by simp [← UInt8.toNat_inj] at h10 ⊢;omega
    have hp2:=piece_len s[k] (s.data.toList.drop (k+1))
    generalize hp:piece s[k] (s.data.toList.drop (k+1))=p at hp2
    obtain ⟨hp0,hp3⟩:=hp2
    have HP:=Lib.hid hp;clear hp
    by_cases hl:line+p.length > 75
    ·have HN:=Lib.hid (hacc.out.trans (congrArg (acc++·) (encL_wrap (s:=s.data.toList) (line:=line) hlt h10 HP.out hl)))
     clear h10 hacc
     have q2:(75:Int)<(line:Int)+(p.length:Int):=by omega
     go_wp2_with (go_at_call 18;refine (piece_of _ _ _ _ (by omega) hlt HP.out).mono ?_;rintro e w1 ⟨rfl,hb1⟩)
     go_roundw
     case rel=>exact ⟨k+1,p.length,acc++([61,13,10]++p),by omega,by omega,by go_num,by simp,vS (by simp [ByteArray.toList_data_append]),by simp;omega,hbel.trans (hb1.mono hbel.size),Lib.hid (by rw [HN.out];simp)⟩
     case measure=>simp [intOf];omega
    ·have HN:=Lib.hid (hacc.out.trans (congrArg (acc++·) (encL_on (s:=s.data.toList) (line:=line) hlt h10 HP.out hl)))
     clear h10 hacc
     have q2:¬ (75:Int)<(line:Int)+(p.length:Int):=by omega
     go_wp2_with (go_at_call 18;refine (piece_of _ _ _ _ (by omega) hlt HP.out).mono ?_;rintro e w1 ⟨rfl,hb1⟩)
     go_roundw
     case rel=>exact ⟨k+1,line+p.length,acc++p,by omega,by omega,by go_num,by simp,vS (by simp [ByteArray.toList_data_append]),by simp;omega,hbel.trans (hb1.mono hbel.size),Lib.hid (by rw [HN.out];simp)⟩
     case measure=>simp [intOf];omega
  ·obtain rfl:k=s.size:=by omega
   go_wp2
   go_ret
   exact ⟨r1 (vs (by rw [hacc.out,show s.data.toList.drop s.size=[] from List.drop_of_length_le (Nat.le_refl _)];simp [encL])),hbel⟩
end Go.Proofs.YtmpiobfdchlikaaDoor
end
section
namespace Nun
abbrev Short:={ p:ByteArray // p.size≤3 }
def Short.bytes (p:Short):List UInt8:=p.1.data.toList
end Nun
namespace Go.Proofs.YtmpiobfdchlikaaDoor
open Go.RowKit Nun
attribute [local go_sem] Oper.semAt_some
end Go.Proofs.YtmpiobfdchlikaaDoor
end
section
namespace Go.Proofs.YtmpiobfdchlikaaDoor
open Go.RowKit Nun
attribute [local go_sem] Oper.semAt_some
theorem Bd.own {β:Type} (B b:Nat) (f:β→List UInt8):Own (fun (s:β) W=>Bd B b (f s) W):=by
 intro s W W' row h hg hr
 have kk:∀ p,Lib.BuilderAtF 118 5 B b p (Lib.byteCells (f s)) W→Lib.BuilderAtF 118 5 B b p (Lib.byteCells (f s)) W':=by
  rintro p ⟨hB,v,hb,hown,hne⟩
  have ne:∀ g o,W.heap[g]? =some o→o.isCells=true→some g≠row:=by
   intro g o hgo hoc e
   obtain ⟨o',ho',hc'⟩:=hr g e.symm
   rw [hgo] at ho';cases ho';rw [hoc] at hc';cases hc'
  refine ⟨hB,v,(hg.block b (Array.getElem?_eq_some_iff.1 hb).1 (ne b _ hb rfl)).trans hb,hown.kept hg ?_,hne⟩
  rcases hv:v.ownBlock with _ | g
  ·exact .inl rfl
  ·obtain ⟨c,fz,hgg⟩:=Lib.ownsRowF_kind hown g hv
   exact .inr (ne g _ hgg rfl)
 rcases h with h | h
 ·exact .inl (kk _ h)
 ·exact .inr (kk _ h)
theorem Bd.set {B b k:Nat} {l:List UInt8} {w:World} {t:TypeId} {v:Value} (v':Value) (h:Bd B b l w) (hbx:Boxed w k t v) (hkb:k≠b) (ht:t≠5):Bd B b l (w.setCell ⟨k,0,none⟩ v'):=by
 have kk:∀ p,Lib.BuilderAtF 118 5 B b p (Lib.byteCells l) w→Lib.BuilderAtF 118 5 B b p (Lib.byteCells l) (w.setCell ⟨k,0,none⟩ v'):=by
  rintro p ⟨hB,v,hb,hown,hne⟩
  exact ⟨hB,v,(Below.heap_setCell _ _ _ _ (fun e=>hkb e.symm)).trans hb,hown.kept (row:=some k) ⟨rfl,rfl,rfl,by simp [World.setCell],fun i _ hi=>Below.heap_setCell _ _ _ _ (fun e=>hi (by simp [e]))⟩ (.inr (Lib.ownBlock_neF hown hbx ht)),hne⟩
 rcases h with h | h
 ·exact .inl (kk _ h)
 ·exact .inr (kk _ h)
theorem Bd.isCells {B b:Nat} {l:List UInt8} {w:World} (h:Bd B b l w):∃ o:Obj,w.heap[b]? =some o∧o.isCells=true:=by
 rcases h with ⟨_,v,hb,_⟩ | ⟨_,v,hb,_⟩<;>exact ⟨_,hb,rfl⟩
end Go.Proofs.YtmpiobfdchlikaaDoor
end
section
set_option maxRecDepth 100000
namespace Nun
open Go Go.RowKit Go.Proofs Go.Proofs.YtmpiobfdchlikaaDoor
variable {lib:Callee}
def LibParse (lib:Callee):Prop:=∀ (s:Str) (p:LP) (m:Nat),s.length≤10000→letterP 4 s 0=.ok (p,m)→lib 6 [.flat (.string (S s))] [] []=some ([.agg p.cells,.flat (.int .i64 0)],false,[],[])
theorem parse_ev (H:LibParse lib) (s:Str) (p:LP) (m:Nat) (hs:s.length≤10000) (h:letterP 4 s 0=.ok (p,m)):evW code lib 6 [.flat (.string (S s))] [] []=some ([.agg p.cells,.flat (.int .i64 0)],false,[],[]):=evW_lib (by decide) (by kernel_rfl) (H s p m hs h)
def awS:Str:=[67,111,110,116,101,110,116,45,84,121,112,101,58,32,109,117,108,116,105,112,97,114,116,47,109,105,120,101,100,59,32,98,111,117,110,100,97,114,121,61,98]++[13,10,13,10]++[45,45,98]++[13,10,13,10,97,13,10]++[45,45,98,45,45]++[13,10]
def awP:LP:=.mk [([67,111,110,116,101,110,116,45,84,121,112,101],[109,117,108,116,105,112,97,114,116,47,109,105,120,101,100,59,32,98,111,117,110,100,97,114,121,61,98])] [109,117,108,116,105,112,97,114,116,47,109,105,120,101,100] [] [.mk [] [116,101,120,116,47,112,108,97,105,110] [97] []]
theorem aw_p:letterP 4 awS 0=.ok (awP,1):=by kernel_rfl
theorem awake14_ev (H:LibParse lib):evW code lib 11 [] [] []=some ([.flat (.bool true)],false,[],[]):=by
 have h:=parse_ev H awS awP 1 (by decide) aw_p
 simp only [awS,List.cons_append,List.nil_append,awP,LP.cells,lcells,fcells,List.length_cons,List.length_nil,List.append_nil,Nat.zero_add] at h
 refine evW_eq code_nunciolaw14_awake (Nat.le_of_ble_eq_true rfl) ?_
 simp (maxSteps:=999999) (disch:=first | assumption | omega) only [go_sem,simprocAttr,au,h]
theorem few14_ev (s:Str) (hs:s.length≤9223372036854775807):evW code lib 5 [.flat (.string (S s))] [] []=some ([.flat (.string (S (s.take 1200)))],false,[],[]):=by
 refine evW_eq code_nunciolaw14_few (Nat.le_of_ble_eq_true rfl) ?_
 rcases Nat.lt_or_ge 1200 s.length with h | h
 ·simp (maxSteps:=999999) (disch:=first | assumption | omega) only [go_sem,simprocAttr,au]
 ·have e:s.take 1200=s:=List.take_of_length_le h
  simp (maxSteps:=999999) (disch:=first | assumption | omega) only [go_sem,simprocAttr,au,e,List.take_length]
theorem mixed_ev (p q t:Str) (hp:p.length≤100000) (hq:q.length≤100000) (ht:t.length≤100000):evW code lib 7 [.flat (.string (S mkS)),.slc 3 [.flat (.string (S p)),.flat (.string (S q)),.flat (.string (S t))]] [] []=some ([.flat (.string (S (mixDoc p q t)))],false,[],[]):=by
 refine evW_eq code_n14_Mixed (Nat.le_of_ble_eq_true rfl) ?_
 obtain ⟨D,hD⟩:∃ D,mixDoc p q t=D:=⟨_,rfl⟩
 rw [hD]
 have hbv:bound=4294967296:=rfl
 obtain ⟨mk,hmk⟩:∃ mk,mkS=mk:=⟨_,rfl⟩
 have hml:mk.length=8:=by rw [← hmk];rfl
 rw [hmk]
 simp (maxSteps:=999999) (disch:=first | assumption | omega) only [go_sem,simprocAttr,au,big_on,loop_on,kLoop_n,kLoop_e,on_n14_Mixed_0,List.length_append,List.length_cons,List.length_nil]
 rw [← hD,← hmk]
 simp only [mkS,mixDoc,linesU,crlf,body3,lineP,ctM,List.append_assoc,List.cons_append,List.nil_append]
def LibRq5 (lib:Callee):Prop:=∀ s:Str,s.length≤10000→lib 8 [.flat (.string (S s))] [] []=some ([.flat (.string (S (encL 0 s)))],false,[],[])
def LibRe4 (lib:Callee):Prop:=∀ s:Str,s.length≤10000→lib 10 [.flat (.string (S s))] [] []=some ([.flat (.string (S (enc64 s)))],false,[],[])
def LibRw4 (lib:Callee):Prop:=∀ s:Str,s.length≤10000→lib 9 [.flat (.string (S s)),.flat (.int .i64 76)] [] []=some ([.flat (.string (S (wrapL 75 s)))],false,[],[])
theorem rq5_ev (H:LibRq5 lib) (s:Str) (h:s.length≤10000):evW code lib 8 [.flat (.string (S s))] [] []=some ([.flat (.string (S (encL 0 s)))],false,[],[]):=evW_lib (by decide) (by kernel_rfl) (H s h)
theorem re4_ev (H:LibRe4 lib) (s:Str) (h:s.length≤10000):evW code lib 10 [.flat (.string (S s))] [] []=some ([.flat (.string (S (enc64 s)))],false,[],[]):=evW_lib (by decide) (by kernel_rfl) (H s h)
theorem rw4_ev (H:LibRw4 lib) (s:Str) (h:s.length≤10000):evW code lib 9 [.flat (.string (S s)),.flat (.int .i64 76)] [] []=some ([.flat (.string (S (wrapL 75 s)))],false,[],[]):=evW_lib (by decide) (by kernel_rfl) (H s h)
set_option maxHeartbeats 1000000 in
theorem holds14_ev (HQ:LibRq5 lib) (HE:LibRe4 lib) (HW:LibRw4 lib) (HP:LibParse lib) (a b c:Str) (ha:a.length≤9223372036854775807) (hb:b.length≤9223372036854775807) (hc:c.length≤9223372036854775807) :
 evW code lib 3 [.flat (.string (S a)),.flat (.string (S b)),.flat (.string (S c))] [] []=some ([.flat (.bool true)],false,[],[]):=by
 have f1:=few14_ev (lib:=lib) a ha
 have f2:=few14_ev (lib:=lib) b hb
 have f3:=few14_ev (lib:=lib) c hc
 have l1:(a.take 1200).length≤1200:=by rw [List.length_take];omega
 have l2:(b.take 1200).length≤1200:=by rw [List.length_take];omega
 have l3:(c.take 1200).length≤1200:=by rw [List.length_take];omega
 obtain ⟨a',ha'⟩:∃ x,a.take 1200=x:=⟨_,rfl⟩
 obtain ⟨b',hb'⟩:∃ x,b.take 1200=x:=⟨_,rfl⟩
 obtain ⟨c',hc'⟩:∃ x,c.take 1200=x:=⟨_,rfl⟩
 rw [ha'] at f1 l1
 rw [hb'] at f2 l2
 rw [hc'] at f3 l3
 have q1:=rq5_ev HQ a' (by omega)
 have q2:=re4_ev HE b' (by omega)
 have e1:=encL_short a' 0
 have e2:=encL_short c' 0
 have e3:=enc64_short _ b' (Nat.le_refl _)
 have e4:=wrap_short _ (enc64 b') (Nat.le_refl _)
 have q3:=rw4_ev HW (enc64 b') (by omega)
 have q4:=rq5_ev HQ c' (by omega)
 have m1:(qpPart a').length=47+(encL 0 a').length:=by unfold qpPart;rw [List.length_append];show 45+_=_;simp only [List.length_cons];omega
 have m2:(b64Part b').length=62+(wrapL 75 (enc64 b')).length:=by unfold b64Part;rw [List.length_append];show 60+_=_;simp only [List.length_cons];omega
 have m3:(qpPart c').length=47+(encL 0 c').length:=by unfold qpPart;rw [List.length_append];show 45+_=_;simp only [List.length_cons];omega
 have q5:=mixed_ev (lib:=lib) (qpPart a') (b64Part b') (qpPart c') (by omega) (by omega) (by omega)
 have q6:=parse_ev HP _ _ _ (doc_short a' b' c' l1 l2 l3) (holds_p a' b' c')
 have q7:=awake14_ev HP
 clear HQ HE HW HP ha' hb' hc'
 have hbv:bound=4294967296:=rfl
 obtain ⟨x,hx⟩:∃ x,encL 0 a'=x:=⟨_,rfl⟩
 obtain ⟨y,hy⟩:∃ x,wrapL 75 (enc64 b')=x:=⟨_,rfl⟩
 obtain ⟨z,hz⟩:∃ x,encL 0 c'=x:=⟨_,rfl⟩
 obtain ⟨D,hD⟩:∃ D,mixDoc (qpPart a') (b64Part b') (qpPart c')=D:=⟨_,rfl⟩
 rw [hD] at q5 q6
 simp only [qpPart,b64Part,hx,hy,hz,linesU,crlf,cteQ,cteB,ctH,mkS,List.append_assoc,List.cons_append,List.nil_append] at q1 q3 q4 q5 e1 e2 e4 m1 m2 m3
 simp only [LP.cells,lcells,fcells,qpF,b64F,mixF,sPlain,List.length_cons,List.length_nil,List.cons_append,List.nil_append,List.append_nil,Nat.zero_add] at q6
 refine evW_eq code_nunciolaw14_LetterHolds (Nat.le_of_ble_eq_true rfl) ?_
 clear m1 m2 m3
 simp (maxSteps:=999999) (disch:=first | assumption | omega) only [go_sem,simprocAttr,au,f1,f2,f3,q1,q2,q3,q4,q5,q6,q7,List.length_append,List.length_cons,List.length_nil]
end Nun
end
section
namespace Nun
open Go
variable {H:Type} {enc:TypeId × Value→H}
theorem returnsInHanded_of_change_and_shaped {a:Assume} {C:Checked} {os:Os} {f:FuncId} {fn:Func} {s:ChangeSpec} {conds:List PathCond} {apart fresh handsOn again:Bool} {X:World→Array Value→Prop}
 (hX:∀ (w w':World) (args:Array Value),w.heap=w'.heap→X w args→X w' args)
 (own:ownKnob C.prog.godebug=none) (started:os.Started) (noInit:C.prog.inits.idxOf? f=none) (hfn:C.prog.funcs[f]? =some fn)
 (witness:∃ (w:World) (tape:Tape) (i:Input),w.os=os∧(w.forCall tape i).Shaped C.prog∧i.vars=[]∧Input.okWide C.prog (w.forCall tape i) .any w.heap.size f i ∧
   ((s.pre enc C.prog fn conds apart (w.forCall tape i).memory i.args∧X (w.forCall tape i).memory i.args)∧sizedMet enc C.prog fn (OpenSpec.ofChange s) apart (w.forCall tape i).memory i.args)∧a.holds C.prog (lone (Frame.enter C.prog f i.args .normal) [] (w.forCall tape i)))
 (contract:∀ (W:World) (base:Nat) (args:Array Value) (ds gs:List (DataW H)) (before:List MemPlace),
   (∀ (j:Nat) t v,fn.params[j]? =some t→args[j]? =some v→Value.okWide C.prog W .any base t v) →
   DataW.Whole enc C.prog fn.params.toList s.vars apart W args.toList ds gs before →
   conds.all (PathCond.test C.prog ⟨fn.params.toList,ds,s.plain.varTypes C.prog,gs⟩)=true →
   (DataW.weightsEach C.prog (fn.params.toList++s.plain.varTypes C.prog) (ds++gs)).all (·≤reachBytes)=true→X W args →
   W.ShapedOpen C.prog →
   a.holds C.prog (lone (Frame.enter C.prog f args .normal) [] W) →
   Calls C.prog f args W fun e W'=>∃ v,e=.returned v∧s.post enc C.prog fn apart fresh handsOn again W args v W') :
 ReturnsInHanded a C os f .any (fun w args=>(s.pre enc C.prog fn conds apart w args∧X w args)∧sizedMet enc C.prog fn (OpenSpec.ofChange s) apart w args) (s.post enc C.prog fn apart fresh handsOn again):=by
 refine returnsInHanded_of_calls own started noInit witness ?_
 intro w tape i _ hsh _ hok hpre hholds
 obtain ⟨_,_,_,fn',hfn',_,_,_,_,hval⟩:=hok
 have e:fn'=fn:=Option.some.inj (hfn'.symm.trans hfn)
 subst e
 obtain ⟨⟨⟨ds,gs,before,hw,hc⟩,hx⟩,hz⟩:=hpre
 have hw':=DataW.Whole.of_heap (w':=w.forCall tape i) (by rfl) hw
 refine (contract (w.forCall tape i) w.heap.size i.args ds gs before hval hw' hc (hz.weights hw) (hX _ _ _ (by rfl) hx) hsh hholds).mono fun e W' ⟨v,he,hp⟩=>?_
 subst he
 exact ChangeSpec.post_blind hp
end Nun
namespace Go.Proofs.YtmpiobfdchlikaaDoor
open Go.ChangeShapes Go.WideShapes Go.ChangeAt Go.RowKit Nun
theorem max_of_shape {W:World} (h:W.ShapedOpen Tryd.prog):MaxIs W:=Go.Proofs.cell_of_shapedOpen_int (zero:=#[.int .i64 0]) (t:=3) h (of_decide_eq_true (by kernel_rfl)) (by kernel_rfl) rfl (by kernel_rfl) (by kernel_rfl) Tryd.underlying3
noncomputable def laidW (os:Os):World :=
 let w0:=World.holding Tryd.prog os ⟨#[],#[],[]⟩
 let put (h:Array Obj) (g:Nat) (cs:Array Value):Array Obj:=h.modify g fun
  | .cells _ t frozen=>.cells cs t frozen
  | o=>o
 let h1:=put w0.heap 1 (Lib.firstTab.map fun z=>Value.int .u8 z).toArray
 let h2:=put h1 2 ((List.range 16).flatMap fun i=>[Value.int .u8 (Lib.accLo i),Value.int .u8 (Lib.accHi i)]).toArray
 { w0 with heap:=h2 }
theorem door_met (os:Os) (args:Array Value):laidMetH Tryd.prog [("unicode/utf8.acceptRanges",Rows.laid_unicode_utf8_acceptRanges),("unicode/utf8.first",Rows.laid_unicode_utf8_first)] ((laidW os).forCall (fun _ _=>0) ⟨#[],args,[]⟩).memory :=
 laidMetH_of_parts3 (fuel:=8) (laidMet_of_run' 8 (by kernel_rfl) (by kernel_rfl)) (by kernel_rfl) (by kernel_rfl)
end Go.Proofs.YtmpiobfdchlikaaDoor
end
section
set_option synthInstance.maxSize 4000
set_option maxRecDepth 100000
namespace Go.Proofs.YtmpiobfdchlikaaDoor
open Go.RowKit Nun
open Go.ChangeShapes Go.WideShapes Go.ChangeAt
open Go.ChangeMaps (open_string shut_string)
def Γ14:Glob where
 D g:=g=0
 G:=MaxIs
 lt w h g hg:=by
  subst hg;obtain ⟨m,hm⟩:=h;exact World.block_lt_of_cell? w _ hm
 keep w w' h hk:=by
  obtain ⟨m,hm⟩:=h
  refine ⟨m,?_⟩
  unfold World.cell? at hm ⊢;rw [hk _ rfl];exact hm
def tRq5:List Value→Option TupRes
 | [.string s]=>if s.size≤10000 then some (flt [.string (S (encL 0 s.data.toList))]) else none
 | _=>none
theorem tRq5_ok {Γ:Glob}:TupOk Tryd.prog Γ 8 tRq5:=tup_one (by kernel_rfl) fun vs R h=>by
 unfold tRq5 at h
 split at h
 ·split at h
  ·rename_i hs
   cases h
   exact ⟨_,rfl,by simp [flatV],fun w _=>(enc_ref _ w (by omega)).mono (by rintro e w' ⟨rfl,hb⟩;exact ⟨rfl,hb⟩)⟩
  ·cases h
 ·cases h
def tRe4:List Value→Option TupRes
 | [.string s]=>if s.size≤10000 then some (flt [.string (S (enc64 s.data.toList))]) else none
 | _=>none
theorem tRe4_ok {Γ:Glob}:TupOk Tryd.prog Γ 10 tRe4:=tup_one (by kernel_rfl) fun vs R h=>by
 unfold tRe4 at h
 split at h
 ·split at h
  ·rename_i hs
   cases h
   exact ⟨_,rfl,by simp [flatV],fun w _=>(encode_ref _ w (by omega)).mono (by rintro e w' ⟨rfl,hb⟩;exact ⟨by rw [enc_law _ _ (Nat.le_refl _)];rfl,hb⟩)⟩
  ·cases h
 ·cases h
def tRw4:List Value→Option TupRes
 | [.string s,.int .i64 n]=>if s.size≤10000∧n=76 then some (flt [.string (S (wrapL 75 s.data.toList))]) else none
 | _=>none
theorem tRw4_ok {Γ:Glob}:TupOk Tryd.prog Γ 9 tRw4:=tup_one (by kernel_rfl) fun vs R h=>by
 unfold tRw4 at h
 split at h
 ·split at h
  ·rename_i hs
   cases h
   obtain ⟨hs,rfl⟩:=hs
   exact ⟨_,rfl,by simp [flatV],fun w _=>(wrap_ref _ 76 w (by omega)).mono (by rintro e w' ⟨rfl,hb⟩;exact ⟨rfl,hb⟩)⟩
  ·cases h
 ·cases h
noncomputable def lib15:Nun.Callee:=both (parseLib lib14) (both (tupLib 8 tRq5) (both (tupLib 10 tRe4) (tupLib 9 tRw4)))
theorem lib15_ok:CallOk Tryd.prog Γ14 lib15:=both_ok (parseLib_ok (lib14_ok fun w h=>h)) (both_ok (tupLib_ok (by decide) tRq5_ok) (both_ok (tupLib_ok (by decide) tRe4_ok) (tupLib_ok (by decide) tRw4_ok)))
theorem l15_parse:LibParse lib15:=fun s p m hs h=>both_l (parseLib_eq (parse_evD lib14_L s hs h))
theorem l15_rq5:LibRq5 lib15:=fun s hs=>by
 unfold lib15
 rw [both_r (parseLib_no (by decide))]
 have h:=tup_at (k:=8) (spec:=tRq5) (args:=[.flat (.string (S s))]) rfl (by unfold tRq5;dsimp only;rw [S_size,if_pos hs,S_lst])
 rw [both_l h];rfl
theorem l15_re4:LibRe4 lib15:=fun s hs=>by
 unfold lib15
 rw [both_r (parseLib_no (by decide)),both_r (tup_no (by decide))]
 have h:=tup_at (k:=10) (spec:=tRe4) (args:=[.flat (.string (S s))]) rfl (by unfold tRe4;dsimp only;rw [S_size,if_pos hs,S_lst])
 rw [both_l h];rfl
theorem l15_rw4:LibRw4 lib15:=fun s hs=>by
 unfold lib15
 rw [both_r (parseLib_no (by decide)),both_r (tup_no (by decide)),both_r (tup_no (by decide))]
 have h:=tup_at (k:=9) (spec:=tRw4) (args:=[.flat (.string (S s)),.flat (.int .i64 76)]) rfl (by unfold tRw4;dsimp only;rw [S_size,if_pos ⟨hs,rfl⟩,S_lst])
 rw [h];rfl
theorem ok15:CallOk Tryd.prog Γ14 (evW code lib15):=evW_ok Tryd.checked.mixed (by kernel_rfl) code_ok lib15_ok
theorem walk_letterHolds (a b c:ByteArray) (w:World) (hm:MaxIs w) (ha:a.size≤maxLen) (hb:b.size≤maxLen) (hc:c.size≤maxLen):Calls Tryd.prog 3 #[.string a,.string b,.string c] w (Ret (.bool true) w):=by
 unfold maxLen at ha hb hc
 have ea:a=S a.data.toList:=by simp [S]
 have eb:b=S b.data.toList:=by simp [S]
 have ec:c=S c.data.toList:=by simp [S]
 have la:a.data.toList.length=a.size:=rfl
 have lb:b.data.toList.length=b.size:=rfl
 have lc:c.data.toList.length=c.size:=rfl
 have h:=holds14_ev l15_rq5 l15_re4 l15_rw4 l15_parse a.data.toList b.data.toList c.data.toList (by omega) (by omega) (by omega)
 rw [← ea,← eb,← ec] at h
 exact calls_of ok15 (by decide) h hm (Fr:=fun _=>0) (vs:=[.string a,.string b,.string c]) (by simp [Rds,Rd,flatV])
namespace letterHoldsDone
theorem own:ownKnob Tryd.prog.godebug=none:=by kernel_rfl
set_option maxRecDepth 100000 in
theorem lifted (os:Os) (started:os.Started) (H:Type) (enc:TypeId × Value→H) :
 ReturnsInHanded {} Tryd.checked os 3 .any (fun w args=>(Rows.letterHoldsSpec.pre enc Tryd.prog Tryd.f3 [] false w args∧laidMetH Tryd.prog [("unicode/utf8.acceptRanges",Rows.laid_unicode_utf8_acceptRanges),("unicode/utf8.first",Rows.laid_unicode_utf8_first)] w)∧sizedMet enc Tryd.prog Tryd.f3 (OpenSpec.ofChange Rows.letterHoldsSpec) false w args)
  (Rows.letterHoldsSpec.post enc Tryd.prog Tryd.f3 false true false false):=by
 refine returnsInHanded_of_change_and_shaped (C:=Tryd.checked) (X:=fun w _=>laidMetH Tryd.prog [("unicode/utf8.acceptRanges",Rows.laid_unicode_utf8_acceptRanges),("unicode/utf8.first",Rows.laid_unicode_utf8_first)] w) (fun _ _ _ hh h=>h.of_heap hh) own started (by kernel_rfl) Tryd.func3
  (ChangeSpec.witness_shaped (enc:=enc) (C:=Tryd.checked) (os:=os) (X:=fun w _=>laidMetH Tryd.prog [("unicode/utf8.acceptRanges",Rows.laid_unicode_utf8_acceptRanges),("unicode/utf8.first",Rows.laid_unicode_utf8_first)] w) false (laidW os) #[.string ⟨#[]⟩,.string ⟨#[]⟩,.string ⟨#[]⟩] 8 rfl (World.shaped_of_RefB (by kernel_rfl) (by kernel_rfl)) (by kernel_rfl) (by kernel_rfl) (by kernel_rfl) (door_met os _)) ?_
 intro W base args ds gs before hval0 hW _ _ hL hsh _
 have hval:∀ (j:Nat) t v,Tryd.f3.params[j]? =some t→args[j]? =some v→Value.okWide Tryd.prog W .any base t v:=hval0
 have hW':=hW
 obtain ⟨p,q,hA0,hV,rfl,hfz,hnd⟩:=hW
 have hA:DataW.TrodAll enc Tryd.prog W 0 (fun _=>true) true Tryd.f3.params.toList args.toList ds p:=hA0
 rw [Tryd.params3] at hA hval
 obtain ⟨v0,vs0,d0,ds0,p0,q0,hargs,rfl,rfl,h0,r0⟩:=trodAll_cons hA
 obtain ⟨v1,vs1,d1,ds1,p1,q1,rfl,rfl,rfl,h1,r1⟩:=trodAll_cons r0
 obtain ⟨v2,vs2,d2,ds2,p2,q2,rfl,rfl,rfl,h2,r2⟩:=trodAll_cons r1
 obtain ⟨rfl,rfl,rfl⟩:=trodAll_nil r2
 obtain rfl:args=#[v0,v1,v2]:=by cases args;simp_all
 obtain ⟨rfl,rfl⟩:=trodVars_none hV
 obtain ⟨a,rfl,rfl,rfl,w0⟩:=open_string Tryd.underlying9 (hval 0 9 v0 rfl rfl) h0
 obtain ⟨b,rfl,rfl,rfl,w1⟩:=open_string Tryd.underlying9 (hval 1 9 v1 rfl rfl) h1
 obtain ⟨c,rfl,rfl,rfl,w2⟩:=open_string Tryd.underlying9 (hval 2 9 v2 rfl rfl) h2
 clear hA0 hval0
 refine (walk_letterHolds a b c W (max_of_shape hsh) w0 w1 w2).mono fun e W' ⟨he,bel⟩=>?_
 subst he
 exact ⟨_,rfl,_,_,_,[],_,[],hW',trodAll_mk1 (shut_bool Tryd.underlying4 _),(trodAll_cons_mk (shut_string Tryd.underlying9 w0) (trodAll_cons_mk (shut_string Tryd.underlying9 w1) (trodAll_cons_mk (shut_string Tryd.underlying9 w2) trodAll_mk0))),rfl,bel.frame _,fun h=>by cases h⟩
theorem over:Rows.letterHoldsRow.holds Tryd.pinned (OpenSpec.ofChange Rows.letterHoldsSpec) :=
 OpenClaim.holds_of_wide 3 Tryd.f3 rfl rfl rfl rfl rfl rfl rfl ⟨rfl,rfl,rfl,rfl,rfl⟩ rfl rfl rfl rfl rfl (by kernel_rfl) Tryd.func3 (by kernel_rfl)
  (of_decide_eq_true (by kernel_rfl)) (by unfold Func.isWrapper;first | (rw [if_pos (by decide +kernel)];kernel_rfl) | (rw [if_neg (by decide +kernel)];exact ⟨rfl,rfl⟩))
  (fun os started H enc _=>lifted os started H enc)
theorem proved:Rows.LetterHoldsCardSaid :=
 Claim7.holds_tied_plain_at .later [] [.data,.pinned] true (true,"3da07ec4aa14e136b73da3ac0648225e87e5b2478c8f2d167c7cf9db6ceca347") true
  over (fun _ h=>by cases h) (by kernel_rfl) (fun _ h=>by cases h) letterHolds_row_tie rfl ⟨rfl,rfl⟩ (by kernel_rfl) rfl
  (fun f fn hf hfn=>by
    obtain rfl:f=3:=Option.some.inj ((show Tryd.prog.funcNamed "nuncio/nunciolaw14.LetterHolds"=some 3 by kernel_rfl).symm.trans hf) |>.symm
    obtain rfl:fn=Tryd.f3:=(Option.some.inj (Tryd.func3.symm.trans hfn)).symm
    exact ⟨by kernel_rfl,fun j t ht=>by
     rw [Tryd.params3] at ht
     have hm:t∈[9,9,9]:=by simpa using Array.mem_of_getElem? ht
     have hall:([9,9,9].all fun u=>!Tryd.prog.wantsStandIn u)=true:=by kernel_rfl
     exact (show Tryd.prog.wantsStandIn t=false by simpa using List.all_eq_true.1 hall t hm)⟩)
  (by kernel_rfl)
end letterHoldsDone
end Go.Proofs.YtmpiobfdchlikaaDoor
end

/- EmailHolds answers true for every mail, where the table of base64 is laid az start-up lays it: texts of this proof, merged. -/
import Derived.Test.YtmpiobfdchlikaaGreatDoorPi
import Derived.Test.YtmpiobfdchlikaaGreatDoorRows
import Derived.LaidMore
import Derived.ProofKit
import Derived.OpenShut
import Derived.Stop.Joined
import Derived.Handed
import Derived.HandedShaped
import Derived.Test.YtmpiobfdchlikaaGreatDoorTie
import Derived.Test.YtmpiobfdchlikaaGreatDoorCards
import Derived.SevenTiedAt
set_option linter.unusedVariables false
set_option linter.unusedSimpArgs false
section
namespace Nun
open Go Go.RowKit Go.Proofs Go.Proofs.YtmpiobfdchlikaaGreatDoor
def lineN (n:Nat) (c:UInt8):Nat:=if c=10 then 0 else n+1
def scanU:Nat→Str→Bool
 | _,[]=>true
 | n,c::t=>(decide (c.toNat≤126) && (decide (lineN n c≤76) || decide (c=13))) && scanU (lineN n c) t
def shT (c:UInt8):Bool:=decide (c.toNat≤126) && (c != 10 && c != 13)
theorem scan_app:∀ (x r:Str) (n:Nat),x.all shT=true→n+x.length≤76→scanU n (x++r)=scanU (n+x.length) r
 | [],r,n,_,_=>rfl
 | c::x,r,n,h,hl=>by
   rw [List.all_cons,Bool.and_eq_true] at h
   obtain ⟨hc,h⟩:=h
   unfold shT at hc
   simp only [Bool.and_eq_true,decide_eq_true_eq,bne_iff_ne,ne_eq] at hc
   simp only [List.length_cons] at hl
   have e:lineN n c=n+1:=by unfold lineN;rw [if_neg hc.2.1]
   rw [List.cons_append,scanU,e,scan_app x r (n+1) h (by omega),decide_eq_true hc.1,decide_eq_true (by omega:n+1≤76)]
   simp only [Bool.true_or,Bool.and_true,Bool.true_and,List.length_cons]
   congr 1;omega
theorem scan_crlf (r:Str) (n:Nat):scanU n (13::10::r)=scanU 0 r:=by
 rw [scanU,scanU]
 simp [lineN]
theorem shB_T:∀ c:UInt8,shB c=true→shT c=true:=by decide +kernel
theorem scan_line {x:Str} (h:okLn x) (r:Str):scanU 0 (x++13::10::r)=scanU 0 r:=by
 rw [scan_app x _ 0 (by rw [List.all_eq_true];intro c hc;exact shB_T c (List.all_eq_true.1 h.2 c hc)) (by have:=h.1;omega),scan_crlf]
theorem scan_lines:∀ (L:List Str) (r:Str),(∀ x∈L,okLn x)→scanU 0 (linesU L++r)=scanU 0 r
 | [],r,_=>rfl
 | x::L,r,h=>by
   have e:linesU (x::L)++r=x++13::10::(linesU L++r):=by rw [linesU,crlf,List.append_assoc,List.append_assoc];rfl
   rw [e,scan_line (h x (by simp)),scan_lines L r fun y hy=>h y (by simp [hy])]
theorem plain_T:∀ c:UInt8,plainB c=true→shT c=true∧c≠61:=by decide +kernel
theorem pair_T:∀ c:UInt8,(pair c).all shT=true∧∀ d∈pair c,d≠61∧d≠95:=by decide +kernel
theorem piece_T (c:UInt8) (t:Str):(piece c t).all shT=true:=by
 unfold piece
 split
 ·rename_i h
  simp only [Bool.or_eq_true,Bool.and_eq_true,beq_iff_eq] at h
  rcases h with h | ⟨h | h,_⟩
  ·rw [List.all_cons,(plain_T c h).1];rfl
  ·rw [h];decide
  ·rw [h];decide
 ·rw [List.all_cons,(pair_T c).1];rfl
theorem scan_enc:∀ (s:Str) (line:Nat) (r:Str),line≤75→scanU line (encL line s++13::10::r)=scanU 0 r
 | [],line,r,h=>by rw [encL,List.nil_append,scan_crlf]
 | c::t,line,r,h=>by
   have hp:=piece_len c t
   rw [encL]
   split
   ·rw [List.cons_append,List.cons_append,scan_crlf,scan_enc t 0 r (by omega)]
   ·split
    ·have e:[61,13,10]++(piece c t++encL (piece c t).length t)++13::10::r=[61]++(13::10::(piece c t++(encL (piece c t).length t++13::10::r))):=by simp only [List.append_assoc];rfl
     rw [e,scan_app [61] _ line (by decide) (by simp only [List.length_cons,List.length_nil];omega),scan_crlf,scan_app _ _ 0 (piece_T c t) (by omega),Nat.zero_add,scan_enc t _ r (by omega)]
    ·rw [List.append_assoc,scan_app _ _ line (piece_T c t) (by omega),scan_enc t _ r (by omega)]
def noEq:Str→Bool
 | []=>true
 | c::t=>!(c == 61 && t.head? == some 95) && noEq t
theorem noEq_one {c:UInt8} {t:Str} (h:c≠61):noEq (c::t)=noEq t:=by
 have:(c == 61)=false:=by simpa using h
 rw [noEq,this];rfl
theorem noEq_app:∀ (a b:Str),noEq a=true→noEq b=true→(a.getLast? ≠some 61∨b.head? ≠some 95)→noEq (a++b)=true
 | [],b,_,h,_=>h
 | [c],b,ha,h,hl=>by
   rw [List.singleton_append,noEq,h,Bool.and_true]
   rcases hl with hl | hl
   ·have:(c == 61)=false:=by simpa using hl
    rw [this];rfl
   ·have:(b.head? == some 95)=false:=by simpa using hl
    rw [this,Bool.and_false];rfl
 | c::d::a,b,ha,h,hl=>by
   rw [noEq,Bool.and_eq_true] at ha
   rw [List.cons_append,noEq,Bool.and_eq_true]
   exact ⟨ha.1,noEq_app (d::a) b ha.2 h (by simpa [List.getLast?_cons] using hl)⟩
theorem noEq_piece (c:UInt8) (t r:Str):noEq (piece c t++r)=noEq r:=by
 unfold piece
 split
 ·rename_i h
  simp only [Bool.or_eq_true,Bool.and_eq_true,beq_iff_eq] at h
  refine noEq_one ?_
  rcases h with h | ⟨h | h,_⟩
  ·exact (plain_T c h).2
  ·rw [h];decide
  ·rw [h];decide
 ·have hp:=(pair_T c).2
  have e:pair c=[hexd (c / 16),hexd (c % 16)]:=rfl
  rw [e] at hp ⊢
  have h1:=hp (hexd (c / 16)) (by simp)
  have h2:=hp (hexd (c % 16)) (by simp)
  have h3:(some (hexd (c / 16)) == some (95:UInt8))=false:=by simpa using h1.2
  show noEq (61::hexd (c / 16)::hexd (c % 16)::r)=_
  rw [noEq,List.head?_cons,h3,noEq_one h1.1,noEq_one h2.1];rfl
theorem noEq_enc:∀ (s:Str) (line:Nat),noEq (encL line s)=true
 | [],line=>rfl
 | c::t,line=>by
   rw [encL]
   split
   ·rw [noEq_one (by decide),noEq_one (by decide)];exact noEq_enc t 0
   ·split
    ·show noEq (61::13::10::(piece c t++encL _ t))=true
     rw [noEq,noEq_one (by decide),noEq_one (by decide),noEq_piece,noEq_enc t];rfl
    ·rw [noEq_piece];exact noEq_enc t _
theorem noEq_drop:∀ (x:Str) (i:Nat),noEq x=true→noEq (x.drop i)=true
 | [],i,_=>by simp [noEq]
 | c::x,0,h=>h
 | c::x,i+1,h=>by
   rw [noEq,Bool.and_eq_true] at h
   exact noEq_drop x i h.2
theorem no_mark {x r w:Str} (hx:x≠[]) (h:noEq x=true):([13,10,45,45,61,95]++w).isPrefixOf (x++13::r)=false:=by
 rw [Bool.eq_false_iff]
 intro hp
 rw [List.isPrefixOf_iff_prefix] at hp
 obtain ⟨z,hz⟩:=hp
 match x,hx,h with
 | [a],_,_=>simp at hz
 | [a,b],_,_=>simp at hz
 | [a,b,c],_,_=>simp at hz
 | [a,b,c,d],_,_=>simp at hz
 | [a,b,c,d,e],_,_=>simp at hz
 | a::b::c::d::e::f::x,_,h =>
   simp at hz
   obtain ⟨rfl,rfl,rfl,rfl,rfl,rfl,_⟩:=hz
   simp [noEq] at h
theorem begins_no {s x r m:Str} {i:Nat} (hd:s.drop i=x++13::r) (hx:x≠[]) (h:noEq x=true) :
 beginsU s (betwB (61::95::m)) i=false∧beginsU s (endB (61::95::m)) i=false:=by
 unfold beginsU
 rw [hd]
 have h1:=no_mark (r:=r) (w:=m++[13,10]) hx h
 have h2:=no_mark (r:=r) (w:=m++[45,45,13,10]) hx h
 have e1:betwB (61::95::m)=[13,10,45,45,61,95]++(m++[13,10]):=by simp [betwB]
 have e2:endB (61::95::m)=[13,10,45,45,61,95]++(m++[45,45,13,10]):=by simp [endB]
 rw [e1,e2,h1,h2]
 simp
theorem bod_skip (s m:Str) (out:List Str) (fr n:Nat):∀ (j i:Nat),(∀ t,i≤t→t<i+j→t<s.length∧beginsU s (betwB m) t=false∧beginsU s (endB m) t=false) →
 runS (bodT s m) none (n+j) (out,fr,i)=runS (bodT s m) none n (out,fr,i+j)
 | 0,i,_=>rfl
 | j+1,i,h=>by
   obtain ⟨h1,h2,h3⟩:=h i (Nat.le_refl _) (by omega)
   have hs:bodT s m (out,fr,i)=.inl (out,fr,i+1):=by unfold bodT;dsimp only;rw [if_pos h1,h2,h3];rfl
   rw [show n+(j+1)=n+j+1 from rfl,runS_inl hs,bod_skip s m out fr n j (i+1) fun t a b=>h t (by omega) (by omega)]
   congr 3;omega
theorem bod_part {s pre p r m:Str} (hs:s=pre++(p++13::r)) (hp:noEq p=true) (out:List Str) (n:Nat) :
 runS (bodT s (61::95::m)) none (n+p.length) (out,pre.length,pre.length)=runS (bodT s (61::95::m)) none n (out,pre.length,pre.length+p.length):=by
 refine bod_skip s _ out _ n p.length pre.length fun t h1 h2=>?_
 obtain ⟨k,rfl⟩:∃ k,t=pre.length+k:=⟨t - pre.length,by omega⟩
 have hd:s.drop (pre.length+k)=p.drop k++13::r:=by
  rw [hs,List.drop_append,List.drop_append]
  simp only [Nat.add_sub_cancel_left,List.drop_of_length_le (Nat.le_add_right _ _),List.nil_append]
  have e0:k - p.length=0:=by omega
  rw [e0];rfl
 have hne:p.drop k≠[]:=by
  intro e
  have:=congrArg List.length e
  rw [List.length_drop] at this
  simp only [List.length_nil] at this;omega
 obtain ⟨e1,e2⟩:=begins_no (m:=m) hd hne (noEq_drop p k hp)
 exact ⟨by rw [hs];simp only [List.length_append,List.length_cons];omega,e1,e2⟩
theorem cut_mid {pre p r:Str}:((pre++(p++r)).take (pre.length+p.length)).drop pre.length=p:=by
 rw [List.take_append,List.drop_append];simp
theorem begins_at {s pre w r:Str} (hs:s=pre++(w++r)):beginsU s w pre.length=true:=by
 unfold beginsU
 rw [hs,Bool.and_eq_true,decide_eq_true_eq]
 refine ⟨by simp,?_⟩
 rw [List.drop_append]
 simp
theorem bodies_two (m p q:Str) (hp:noEq p=true) (hq:noEq q=true) :
 bodiesU (openB (61::95::m)++(p++(betwB (61::95::m)++(q++endB (61::95::m))))) (61::95::m)=some ([p,q],true):=by
 obtain ⟨M,hM⟩:∃ M,(61::95::m:Str)=M:=⟨_,rfl⟩
 obtain ⟨s,hs⟩:∃ s,openB M++(p++(betwB M++(q++endB M)))=s:=⟨_,rfl⟩
 have hb:betwB M=13::([10,45,45]++M++[13,10]):=by simp [betwB]
 have he:endB M=13::([10,45,45]++M++[45,45,13,10]):=by simp [endB]
 have lo:(openB M).length=M.length+4:=by simp [openB]
 have lb:(betwB M).length=M.length+6:=by simp [betwB]
 have le:(endB M).length=M.length+8:=by simp [endB]
 have hl:s.length=(openB M).length+(p.length+((betwB M).length+(q.length+(endB M).length))):=by rw [← hs];simp only [List.length_append]
 rw [hM,hs]
 have hop:beginsU s (openB M) 0=true:=begins_at (pre:=[]) hs.symm
 unfold bodiesU
 rw [if_pos hop]
 have e1:s=openB M++(p++13::([10,45,45]++M++[13,10]++(q++endB M))):=by rw [← hs,hb];simp only [List.cons_append,List.append_assoc]
 have e2:s=(openB M++(p++betwB M))++(q++13::([10,45,45]++M++[45,45,13,10])):=by rw [← hs,he];simp only [List.append_assoc]
 have e3:s=(openB M++p)++(betwB M++(q++endB M)):=by rw [← hs];simp only [List.append_assoc]
 have e4:s=(openB M++(p++(betwB M++q)))++(endB M++[]):=by rw [← hs];simp only [List.append_assoc,List.append_nil]
 have e5:s=openB M++(p++(betwB M++(q++endB M))):=hs.symm
 have e6:s=(openB M++(p++betwB M))++(q++endB M):=by rw [← hs];simp only [List.append_assoc]
 have l1:(openB M++p).length=(openB M).length+p.length:=by rw [List.length_append]
 have l2:(openB M++(p++betwB M)).length=(openB M).length+p.length+(betwB M).length:=by simp only [List.length_append];omega
 have l3:(openB M++(p++(betwB M++q))).length=(openB M).length+p.length+(betwB M).length+q.length:=by simp only [List.length_append];omega
 obtain ⟨n,hn⟩:∃ n,s.length+1=n+1+q.length+1+p.length:=⟨(openB M).length+(betwB M).length+(endB M).length - 1,by omega⟩
 have s1:=bod_part (m:=m) e1 hp [] (n+1+q.length+1)
 have s2:=bod_part (m:=m) e2 hq [p] (n+1)
 rw [hM] at s1 s2
 rw [hn,s1]
 have b1:beginsU s (betwB M) ((openB M).length+p.length)=true:=by rw [← l1];exact begins_at e3
 have c1:(s.take ((openB M).length+p.length)).drop (openB M).length=p:=by rw [e5];exact cut_mid
 have t1:bodT s M ([],(openB M).length,(openB M).length+p.length)=.inl ([p],(openB M++(p++betwB M)).length,(openB M++(p++betwB M)).length):=by
  unfold bodT
  dsimp only
  rw [if_pos (by omega),b1,if_pos rfl,c1,l2];rfl
 rw [runS_inl t1,s2]
 have b2:beginsU s (endB M) ((openB M++(p++betwB M)).length+q.length)=true:=by
  rw [show (openB M++(p++betwB M)).length+q.length=(openB M++(p++(betwB M++q))).length by rw [l2,l3]];exact begins_at e4
 have b3:beginsU s (betwB M) ((openB M++(p++betwB M)).length+q.length)=false:=by
  rw [Bool.eq_false_iff]
  intro h
  unfold beginsU at h
  rw [Bool.and_eq_true] at h
  have hd:s.drop ((openB M++(p++betwB M)).length+q.length)=endB M:=by
   rw [show (openB M++(p++betwB M)).length+q.length=(openB M++(p++(betwB M++q))).length by rw [l2,l3],e4,List.drop_append];simp
  rw [hd,List.isPrefixOf_iff_prefix] at h
  obtain ⟨z,hz⟩:=h.2
  simp [betwB,endB] at hz
 have c2:(s.take ((openB M++(p++betwB M)).length+q.length)).drop (openB M++(p++betwB M)).length=q:=by rw [e6];exact cut_mid
 have t2:bodT s M ([p],(openB M++(p++betwB M)).length,(openB M++(p++betwB M)).length+q.length)=.inr (some ([p,q],true)):=by
  unfold bodT
  dsimp only
  rw [if_pos (by rw [l2];omega),b3,if_neg (by simp),b2,if_pos rfl,c2,decide_eq_true (by rw [l2];omega)];rfl
 rw [runS_inr t2]
end Nun
end
section
namespace Nun
open Go Go.RowKit Go.Proofs Go.Proofs.YtmpiobfdchlikaaGreatDoor
variable {lib:Callee}
def plainV (c:UInt8):Bool:=((decide (33≤c.toNat) && decide (c.toNat≤126)) && !decide (c.toNat=61)) || (decide (c.toNat=32) || decide (c.toNat=9))
theorem plain5_ev (c:UInt8):evW code lib 156 [.flat (.int .u8 c.toNat)] [] []=some ([.flat (.bool ((decide (33≤c.toNat) && decide (c.toNat≤126)) && !decide (c.toNat=61)))],false,[],[]):=by
 refine evW_eq code_n05_Plain (Nat.le_of_ble_eq_true rfl) ?_
 obtain ⟨n,hn⟩:∃ n,c.toNat=n:=⟨_,rfl⟩
 rw [hn]
 have d1:((33:Int)≤((n:Nat):Int))=(33≤n):=by apply propext;omega
 have d2:(((n:Nat):Int)≤(126:Int))=(n≤126):=by apply propext;omega
 have d3:(((n:Nat):Int)=(61:Int))=(n=61):=by apply propext;omega
 rcases Classical.em (33≤n) with a1 | a1
 all_goals first | (exfalso;omega) | skip
 all_goals rcases Classical.em (n≤126) with a2 | a2
 all_goals first | (exfalso;omega) | skip
 all_goals rcases Classical.em (n=61) with a3 | a3
 all_goals first | (exfalso;omega) | skip
 all_goals
  first | have e1:=eq_false a1 | have e1:=eq_true a1
  first | have e2:=eq_false a2 | have e2:=eq_true a2
  first | have e3:=eq_false a3 | have e3:=eq_true a3
  clear a1 a2 a3
 all_goals simp only [go_sem,simprocAttr,d1,d2,d3,e1,e2,e3,Bool.true_or,Bool.or_true,Bool.false_or,Bool.or_false]
def decT (s:Str) (q:Str × Nat):(Str × Nat) ⊕ Option Str:=match s[q.2]? with
 | none=>.inr (some q.1)
 | some c=>if beginsU s [13,10] q.2 then .inl (q.1++[10],q.2+2) else if beginsU s [61,13,10] q.2 then .inl (q.1,q.2+3)
   else if c.toNat=61 then (match byteU s (q.2+1) with | some b=>.inl (q.1++[b],q.2+3) | none=>.inr none) else if plainV c then .inl (q.1++[c],q.2+1) else .inr none
def dqU (s:Str):Option Str:=runS (decT s) none (s.length+1) ([],0)
def headD (s:Str) (q:Str × Nat):St:=⟨[(0,.flat (.string (S s))),(4,.slc q.1.length (bcells q.1)),(5,.flat (.int .i64 (q.2:Nat)))],[.slot 4],[],[]⟩
def finD:Option Str→Out × St
 | some out=>(.exit 0,⟨[(4,.slc out.length (bcells out))],[.slot 4],[],[]⟩)
 | none=>(.ret,⟨[(2,.flat (.string (S []))),(3,.flat (.int .i64 7))],[],[],[]⟩)
theorem byteU_in {s:Str} {k:Nat} {b:UInt8} (h:byteU s k=some b):k+2≤s.length:=by
 unfold byteU at h
 split at h
 ·rename_i a b h1 h2
  have:=(List.getElem?_eq_some_iff.1 h2).1
  omega
 ·cases h
theorem decT_in {s:Str} {q p:Str × Nat} (h:decT s q=.inl p) (h1:q.1.length≤q.2) (h2:q.2≤s.length):(p.1.length≤p.2∧p.2≤s.length)∧q.2<p.2:=by
 obtain ⟨out,k⟩:=q
 dsimp only at h1 h2
 unfold decT at h
 dsimp only at h
 split at h
 ·cases h
 ·rename_i c hc
  have hk:=(List.getElem?_eq_some_iff.1 hc).1
  split at h
  ·rename_i hb
   have:=begins_len hb
   cases h
   simp only [List.length_append,List.length_cons,List.length_nil] at *;omega
  ·split at h
   ·rename_i hb
    have:=begins_len hb
    cases h
    simp only [List.length_append,List.length_cons,List.length_nil] at *;omega
   ·split at h
    ·split at h
     ·rename_i b hb
      have:=byteU_in hb
      cases h
      simp only [List.length_append,List.length_cons,List.length_nil] at *;omega
     ·cases h
    ·split at h
     ·cases h
      simp only [List.length_append,List.length_cons,List.length_nil] at *;omega
     ·cases h
set_option maxHeartbeats 4000000 in
theorem decode_ev (s:Str) (hs:s.length≤10000000):evW code lib 119 [.flat (.string (S s))] [] []=some (match dqU s with
 | some t=>([.flat (.string (S t)),.flat (.int .i64 0)],false,[],[])
 | none=>([.flat (.string (S [])),.flat (.int .i64 7)],false,[],[])):=by
 have hbv:bound=4294967296:=rfl
 refine evW_eq code_n05_Decode (Nat.le_of_ble_eq_true rfl) ?_
 have hloop:=loop_run (body:=evC (evW code lib) big b_n05_Decode_0) (live:=[0,4,5]) (nb:=0) (headD s) (decT s) none finD (fun q=>q.1.length≤q.2∧q.2≤s.length) (fun q=>s.length - q.2) (fun q hq=>?_) (fun q hq=>by simp only [headD,go_sem,simprocAttr])
  (fun a b ha h=>?_) (fun r=>by cases r<;>simp [finD]) (n:=s.length+1) ([],0) ⟨Nat.le_refl _,Nat.zero_le _⟩ (by dsimp only;omega) (by dsimp only;unfold big;omega)
 ·have e0:bcells []=[]:=rfl
  have hD:runS (decT s) none (s.length+1) ([],0)=dqU s:=rfl
  rw [hD] at hloop
  unfold headD at hloop
  simp only [List.length_nil,e0,n0] at hloop
  cases hr:dqU s with
  | none =>
    rw [hr] at hloop
    simp only [finD] at hloop
    simp (maxSteps:=999999) (disch:=first | assumption | omega) only [go_sem,simprocAttr,au,hloop]
  | some t =>
    rw [hr] at hloop
    simp only [finD] at hloop
    have hb:=bytesOf_bcells t
    simp (maxSteps:=999999) (disch:=first | assumption | omega) only [go_sem,simprocAttr,au,hloop,hb,bcells_len]
 ·obtain ⟨out,k⟩:=q
  obtain ⟨h1,h2⟩:=hq
  dsimp only at h1 h2
  unfold decT
  dsimp only
  by_cases hlt:k<s.length
  ·have hc:s[k]? =some s[k]:=List.getElem?_eq_getElem hlt
   obtain ⟨c,hc'⟩:∃ c,s[k]=c:=⟨_,rfl⟩
   rw [hc'] at hc
   rw [hc]
   dsimp only
   have b1:=begins2_ev (lib:=lib) s [13,10] k (by omega) (by decide) (by omega)
   have b2:=begins2_ev (lib:=lib) s [61,13,10] k (by omega) (by decide) (by omega)
   have e10:[PV.flat (.int .u8 10)]=bcells [10]:=rfl
   cases hb1:beginsU s [13,10] k with
   | true =>
     rw [hb1] at b1
     have hl:=begins_len hb1
     simp only [List.length_cons,List.length_nil] at hl
     simp only [if_true,outS]
     unfold headD
     simp (maxSteps:=999999) (disch:=first | assumption | omega) only [go_sem,simprocAttr,au,hc,b1,on_n05_Decode_0,bcells_len,allU8_bcells]
     simp only [e10,bcells_app,List.length_append,List.length_cons,List.length_nil]
   | false =>
     rw [hb1] at b1
     simp only [Bool.false_eq_true,if_false]
     cases hb2:beginsU s [61,13,10] k with
     | true =>
       rw [hb2] at b2
       have hl:=begins_len hb2
       simp only [List.length_cons,List.length_nil] at hl
       simp only [if_true,outS]
       unfold headD
       simp (maxSteps:=999999) (disch:=first | assumption | omega) only [go_sem,simprocAttr,au,hc,b1,b2,on_n05_Decode_0]
     | false =>
       rw [hb2] at b2
       simp only [Bool.false_eq_true,if_false]
       by_cases h61:c.toNat=61
       ·rw [if_pos h61]
        have b3:=byte5_ev (lib:=lib) s (k+1) (by omega) (by omega)
        simp only [Int.natCast_add,Int.natCast_one] at b3
        cases hby:byteU s (k+1) with
        | some b =>
          rw [hby] at b3
          have hl:=byteU_in hby
          have eb:[PV.flat (.int .u8 b.toNat)]=bcells [b]:=rfl
          simp only [outS]
          unfold headD
          simp (maxSteps:=999999) (disch:=first | assumption | omega) only [go_sem,simprocAttr,au,hc,b1,b2,b3,h61,on_n05_Decode_0,bcells_len,allU8_bcells]
          simp only [eb,bcells_app,List.length_append,List.length_cons,List.length_nil]
        | none =>
          rw [hby] at b3
          simp only [outS,finD]
          unfold headD
          simp (maxSteps:=999999) (disch:=first | assumption | omega) only [go_sem,simprocAttr,au,hc,b1,b2,b3,h61,on_n05_Decode_0]
       ·rw [if_neg h61]
        have b3:=plain5_ev (lib:=lib) c
        have eb:[PV.flat (.int .u8 c.toNat)]=bcells [c]:=rfl
        unfold plainV
        obtain ⟨n,hn⟩:∃ n,c.toNat=n:=⟨_,rfl⟩
        obtain ⟨v,hv⟩:∃ v,((decide (33≤n) && decide (n≤126)) && !decide (n=61))=v:=⟨_,rfl⟩
        have h61':=eq_false h61
        rw [hn] at b3 h61' eb ⊢
        rw [hv] at b3 ⊢
        cases v with
        | true =>
          simp only [Bool.true_or,if_true,outS]
          unfold headD
          simp (maxSteps:=999999) (disch:=first | assumption | omega) only [go_sem,simprocAttr,au,hc,hn,b1,b2,b3,h61',on_n05_Decode_0,bcells_len,allU8_bcells]
          simp only [eb,bcells_app,List.length_append,List.length_cons,List.length_nil]
        | false =>
          simp only [Bool.false_or]
          by_cases h32:n=32
          ·simp only [h32,decide_true,Bool.true_or,if_true,outS]
           unfold headD
           rw [h32] at hn h61' b3 eb
           have n32:((32:Nat):Int)=32:=rfl
           rw [n32] at b3 eb
           simp (maxSteps:=999999) (disch:=first | assumption | omega) only [go_sem,simprocAttr,au,hc,hn,b1,b2,b3,h61',on_n05_Decode_0,bcells_len,allU8_bcells]
           simp only [eb,bcells_app,List.length_append,List.length_cons,List.length_nil]
          ·by_cases h9:n=9
           ·simp only [h9,decide_true,Bool.or_true,if_true,outS]
            unfold headD
            rw [h9] at hn h61' b3 eb
            have n9:((9:Nat):Int)=9:=rfl
            rw [n9] at b3 eb
            simp (maxSteps:=999999) (disch:=first | assumption | omega) only [go_sem,simprocAttr,au,hc,hn,b1,b2,b3,h61',on_n05_Decode_0,bcells_len,allU8_bcells]
            simp only [eb,bcells_app,List.length_append,List.length_cons,List.length_nil]
           ·simp only [h32,h9,decide_false,Bool.or_false,Bool.false_eq_true,if_false,outS,finD]
            unfold headD
            simp (maxSteps:=999999) (disch:=first | assumption | omega) only [go_sem,simprocAttr,au,hc,hn,b1,b2,b3,h61',on_n05_Decode_0]
  ·have hc:s[k]? =none:=List.getElem?_eq_none (by omega)
   rw [hc]
   simp only [outS,finD]
   unfold headD
   simp (maxSteps:=999999) (disch:=first | assumption | omega) only [go_sem,simprocAttr,au,on_n05_Decode_0]
 ·have:=decT_in h ha.1 ha.2
  exact ⟨this.1,by have:=this.1;omega⟩
theorem beg_drop {s w:Str} {k:Nat} (hk:k≤s.length):beginsU s w k=w.isPrefixOf (s.drop k):=by unfold beginsU;rw [decide_eq_true hk];rfl
theorem drop_at {s r:Str} {k:Nat} {c:UInt8} (h:s.drop k=c::r):s[k]? =some c∧k<s.length:=by
 have h1:(s.drop k)[0]? =some c:=by rw [h];rfl
 rw [List.getElem?_drop,Nat.add_zero] at h1
 exact ⟨h1,(List.getElem?_eq_some_iff.1 h1).1⟩
theorem d_nl {s r out:Str} {k:Nat} (h:s.drop k=13::10::r):decT s (out,k)=.inl (out++[10],k+2):=by
 obtain ⟨h1,h2⟩:=drop_at h
 unfold decT
 dsimp only
 rw [h1]
 dsimp only
 rw [beg_drop (by omega),h,if_pos (by simp [List.isPrefixOf])]
theorem d_soft {s r out:Str} {k:Nat} (h:s.drop k=61::13::10::r):decT s (out,k)=.inl (out,k+3):=by
 obtain ⟨h1,h2⟩:=drop_at h
 unfold decT
 dsimp only
 rw [h1]
 dsimp only
 rw [beg_drop (by omega),beg_drop (by omega),h,if_neg (by simp [List.isPrefixOf]),if_pos (by simp [List.isPrefixOf])]
theorem plainV_ne:∀ c:UInt8,plainV c=true→c≠13∧c≠61∧c.toNat≠61:=by decide +kernel
theorem d_one {s r out:Str} {k:Nat} {c:UInt8} (h:s.drop k=c::r) (hc:plainV c=true):decT s (out,k)=.inl (out++[c],k+1):=by
 obtain ⟨h1,h2⟩:=drop_at h
 obtain ⟨n1,n2,n3⟩:=plainV_ne c hc
 have e1:((13:UInt8) == c)=false:=by simpa using fun e=>n1 e.symm
 have e2:((61:UInt8) == c)=false:=by simpa using fun e=>n2 e.symm
 unfold decT
 dsimp only
 rw [h1]
 dsimp only
 rw [beg_drop (by omega),beg_drop (by omega),h,if_neg (by simp [List.isPrefixOf,e1]),if_neg (by simp [List.isPrefixOf,e2]),if_neg n3,if_pos hc]
theorem hex_dig:∀ c:UInt8,(digU (hexd (c / 16))≤15∧digU (hexd (c % 16))≤15)∧UInt8.ofNat (16 * digU (hexd (c / 16))+digU (hexd (c % 16)))=c∧((13:UInt8) == hexd (c / 16))=false:=by decide +kernel
theorem d_hex {s r out:Str} {k:Nat} {c:UInt8} (h:s.drop k=61::(pair c++r)):decT s (out,k)=.inl (out++[c],k+3):=by
 obtain ⟨h1,h2⟩:=drop_at h
 obtain ⟨n1,n2,n3⟩:=hex_dig c
 have hp:pair c=[hexd (c / 16),hexd (c % 16)]:=rfl
 rw [hp] at h
 have a1:s[k+1]? =some (hexd (c / 16)):=by
  have:(s.drop k)[1]? =some (hexd (c / 16)):=by rw [h];rfl
  rwa [List.getElem?_drop] at this
 have a2:s[k+1+1]? =some (hexd (c % 16)):=by
  have:(s.drop k)[2]? =some (hexd (c % 16)):=by rw [h];rfl
  rwa [List.getElem?_drop] at this
 have hb:byteU s (k+1)=some c:=by
  unfold byteU
  rw [a1,a2]
  dsimp only
  rw [if_pos n1,n2]
 unfold decT
 dsimp only
 rw [h1]
 dsimp only
 rw [beg_drop (by omega),beg_drop (by omega),h,if_neg (by simp [List.isPrefixOf]),if_neg (by simp [List.isPrefixOf,n3]),if_pos (show (61:UInt8).toNat=61 from rfl),hb]
theorem plain_V:∀ c:UInt8,(plainB c || (c == 32 || c == 9))=true→plainV c=true:=by decide +kernel
theorem d_piece {s r out:Str} {k:Nat} {c:UInt8} {t:Str} (h:s.drop k=piece c t++r):decT s (out,k)=.inl (out++[c],k+(piece c t).length):=by
 unfold piece at h ⊢
 split at h
 ·rename_i hc
  rw [if_pos hc]
  refine d_one h (plain_V c ?_)
  rw [Bool.or_eq_true] at hc
  rcases hc with hc | hc
  ·rw [hc];rfl
  ·rw [Bool.and_eq_true] at hc
   rw [hc.1,Bool.or_true]
 ·rename_i hc
  rw [if_neg hc]
  exact d_hex h
theorem dec_run:∀ (t:Str) (line:Nat) (s pre out:Str) (n:Nat),s=pre++encL line t→(encL line t).length<n→runS (decT s) none n (out,pre.length)=some (out++t)
 | [],line,s,pre,out,n,hs,hn=>by
   obtain ⟨m,rfl⟩:∃ m,n=m+1:=⟨n - 1,by omega⟩
   have hk:s[pre.length]? =none:=by rw [hs];simp [encL]
   rw [runS_inr (r:=some out) (by unfold decT;dsimp only;rw [hk]),List.append_nil]
 | c::t,line,s,pre,out,n,hs,hn=>by
   have hp:=piece_len c t
   obtain ⟨m,rfl⟩:∃ m,n=m+1:=⟨n - 1,by omega⟩
   have hd:s.drop pre.length=encL line (c::t):=by rw [hs];simp
   rw [encL] at hs hn hd
   split at hs
   ·rename_i h10
    rw [if_pos h10] at hn hd
    simp only [List.length_cons] at hn
    rw [runS_inl (d_nl hd),show pre.length+2=(pre++[13,10]).length by simp,dec_run t 0 s (pre++[13,10]) _ m (by rw [hs];simp) (by omega),h10,List.append_assoc];rfl
   ·rename_i h10
    rw [if_neg h10] at hn hd
    split at hs
    ·rename_i hl
     rw [if_pos hl] at hn hd
     simp only [List.length_append,List.length_cons,List.length_nil] at hn
     obtain ⟨j,rfl⟩:∃ j,m=j+1:=⟨m - 1,by omega⟩
     have hd2:s.drop (pre.length+3)=piece c t++encL (piece c t).length t:=by
      rw [← List.drop_drop,hd];rfl
     rw [runS_inl (d_soft hd),runS_inl (d_piece hd2),show pre.length+3+(piece c t).length=(pre++([61,13,10]++piece c t)).length by simp only [List.length_append,List.length_cons,List.length_nil];omega,
      dec_run t (piece c t).length s (pre++([61,13,10]++piece c t)) _ j (by rw [hs];simp only [List.append_assoc]) (by omega),List.append_assoc];rfl
    ·rename_i hl
     rw [if_neg hl] at hn hd
     rw [List.length_append] at hn
     rw [runS_inl (d_piece hd),show pre.length+(piece c t).length=(pre++piece c t).length by rw [List.length_append],dec_run t (line+(piece c t).length) s (pre++piece c t) _ m (by rw [hs];simp only [List.append_assoc]) (by omega),List.append_assoc];rfl
theorem dec_enc (t:Str):dqU (encL 0 t)=some t:=by
 have:=dec_run t 0 (encL 0 t) [] [] ((encL 0 t).length+1) (by simp) (by omega)
 simpa [dqU] using this
theorem said_qp (t:Str) (ht:(encL 0 t).length≤10000000):evW code lib 66 [.flat (.string (S (encL 0 t))),.flat (.string (S [113,117,111,116,101,100,45,112,114,105,110,116,97,98,108,101]))] [] []=some ([.flat (.string (S t)),.flat (.bool true)],false,[],[]):=by
 have h:=decode_ev (lib:=lib) (encL 0 t) ht
 rw [dec_enc] at h
 have h7:(([113,117,111,116,101,100,45,112,114,105,110,116,97,98,108,101]:Str)=[55,98,105,116])=False:=eq_false (by decide)
 refine evW_eq code_n14_said (Nat.le_of_ble_eq_true rfl) ?_
 generalize encL 0 t=s at *
 simp (maxSteps:=999999) (disch:=first | assumption | omega) only [go_sem,simprocAttr,au,h,h7]
end Nun
end
section
namespace Nun
open Go Go.RowKit Go.Proofs Go.Proofs.YtmpiobfdchlikaaGreatDoor
theorem fcells_map:∀ F:List Fld,(fldCells F).map .flat=fcells F
 | []=>rfl
 | (a,b)::l=>by show PV.flat (.string (S a))::PV.flat (.string (S b))::(fldCells l).map .flat=_;rw [fcells_map l];rfl
theorem l36_split:LibSplit lib36:=fun s F b hs h=>by
 unfold lib36
 rw [or_r (bld_no (by decide) (by decide)),or_r (nest_no (by decide)),or_r (oneF_no (by decide)),or_r (oneF_no (by decide)),or_r (oneF_no (by decide)),or_r (oneF_no (by decide)),or_r (oneF_no (by decide)),or_r (oneF_no (by decide)),or_r (oneF_no (by decide)),or_r (oneF_no (by decide))]
 have e:sSplit [.string (S s)]=some ⟨fldCells F,F.length,2,41,[.int .i64 b,.int .i64 0]⟩:=by
  unfold sSplit;dsimp only
  rw [if_pos (by rw [S_size];exact hs),S_list,h]
 show ((flats [.flat (.string (S s))]).bind sSplit).map _=_
 rw [show flats [.flat (.string (S s))]=some [.string (S s)] from rfl,Option.bind_some,e,Option.map_some,fcells_map]
 rfl
def m0:Mail:=⟨[97,64,98],[99,64,100],[120],[104,105,10],[60,112,62,104,105,60,47,112,62]⟩
def b1:Str:=[67,111,110,116,101,110,116,45,84,121,112,101,58,32,116,101,120,116,47,112,108,97,105,110,59,32,99,104,97,114,115,101,116,61,117,116,102,45,56,13,10,67,111,110,116,101,110,116,45,84,114,97,110,115,102,101,114,45,69,110,99,111,100,105,110,103,58,32,113,117,111,116,101,100,45,112,114,105,110,116,97,98,108,101,13,10,13,10,104,105,13,10]
def b2:Str:=[67,111,110,116,101,110,116,45,84,121,112,101,58,32,116,101,120,116,47,104,116,109,108,59,32,99,104,97,114,115,101,116,61,117,116,102,45,56,13,10,67,111,110,116,101,110,116,45,84,114,97,110,115,102,101,114,45,69,110,99,111,100,105,110,103,58,32,113,117,111,116,101,100,45,112,114,105,110,116,97,98,108,101,13,10,13,10,60,112,62,104,105,60,47,112,62]
def d0:Str:=[45,45,61,95,110,117,110,99,105,111,13,10]++b1++[13,10,45,45,61,95,110,117,110,99,105,111,13,10]++b2++[13,10,45,45,61,95,110,117,110,99,105,111,45,45,13,10]
def h0:List Str:=[[70,114,111,109,58,32,97,64,98],[84,111,58,32,99,64,100],[83,117,98,106,101,99,116,58,32,120],mimeS,multiS]
def t0:Str:=linesU h0++13::10::d0
theorem chk0:checkU m0=0:=by decide +kernel
theorem res0:resB enc64 (encL 0) m0=t0:=by decide +kernel
theorem spl0:splitL t0=.ok (mailF [97,64,98] [99,64,100] [120]) ((linesU h0).length+2) :=
 split_lines h0 d0 [(fromS,[32,97,64,98]),(toS,[32,99,64,100]),(subjS,[32,120]),([77,73,77,69,45,86,101,114,115,105,111,110],[32,49,46,48]),(ctN,32::multiV)] (by decide +kernel) (by decide +kernel)
theorem spl1:splitL b1=.ok (partF plainS) 88 :=
 split_lines [ctS++plainS++csS,cteS] [104,105,13,10] [(ctN,32::valU plainS),(cteN,32::qpN)] (by decide +kernel) (by decide +kernel)
theorem spl2:splitL b2=.ok (partF htmlS) 87 :=
 split_lines [ctS++htmlS++csS,cteS] [60,112,62,104,105,60,47,112,62] [(ctN,32::valU htmlS),(cteN,32::qpN)] (by decide +kernel) (by decide +kernel)
variable {lib:Callee}
theorem bod0:evW code lib 67 [.flat (.string (S d0)),.flat (.string (S boundS))] [] []=some ([.slc 2 [.flat (.string (S b1)),.flat (.string (S b2))],.flat (.bool true)],false,[],[]):=by
 rw [bodies_ev d0 boundS (by decide +kernel) (by decide +kernel),show bodiesU d0 boundS=some ([b1,b2],true) by decide +kernel]
 rfl
theorem sai1:evW code lib 66 [.flat (.string (S (b1.drop 88))),.flat (.string (S qpN))] [] []=some ([.flat (.string (S [104,105,10])),.flat (.bool true)],false,[],[]):=kev (by kernel_rfl)
theorem sai2:evW code lib 66 [.flat (.string (S (b2.drop 87))),.flat (.string (S qpN))] [] []=some ([.flat (.string (S [60,112,62,104,105,60,47,112,62])),.flat (.bool true)],false,[],[]):=kev (by kernel_rfl)
theorem drop0:t0.drop ((linesU h0).length+2)=d0:=by decide +kernel
end Nun
end
section
namespace Nun
open Go Go.RowKit Go.Proofs Go.Proofs.YtmpiobfdchlikaaGreatDoor
variable {lib:Callee}
theorem parse_mail {s ty tx:Str} {fs ps:List PV} {k j n:Nat} (h1:noPtrs fs=true) (h2:noPtrs ps=true) (h3:∀ n,lows n fs=true) (h4:∀ n,lows n ps=true)
 (h:evW code lib 37 [.flat (.string (S s)),.flat (.int .i64 0),.flat (.int .i64 0)] [] []=some ([.agg [.slc k fs,.flat (.string (S ty)),.flat (.string (S tx)),.slc j ps],.flat (.int .i64 (n:Nat)),.flat (.int .i64 0)],false,[],[])) :
 evW code lib 16 [.flat (.string (S s))] [] []=some ([.agg [.slc k fs,.flat (.string (S ty)),.flat (.string (S tx)),.slc j ps],.flat (.int .i64 0)],false,[],[]):=by
 refine evW_eq code_n14_Parse (Nat.le_of_ble_eq_true rfl) ?_
 simp (maxSteps:=999999) (disch:=first | assumption | omega) only [go_sem,simprocAttr,au,h,h1,h2,h3,h4]
theorem parse0:evW code lib36 16 [.flat (.string (S t0))] [] []=some ([.agg (pcell2 (mailF [97,64,98] [99,64,100] [120]) multiT (pcell (partF plainS) (typeU plainS) [104,105,10] 0 []) (pcell (partF htmlS) (typeU htmlS) [60,112,62,104,105,60,47,112,62] 0 [])),.flat (.int .i64 0)],false,[],[]):=by
 have h:=read_mail (lib:=lib36) l36_split t0 b1 b2 [104,105,10] [60,112,62,104,105,60,47,112,62] _ _ _ _ (by decide +kernel) spl0 (by decide +kernel) (by rw [drop0];exact bod0)
  (read_part l36_split (.inl rfl) b1 _ _ 1 2 (by decide +kernel) spl1 (by decide +kernel) sai1) (read_part l36_split (.inr rfl) b2 _ _ 1 2 (by decide +kernel) spl2 (by decide +kernel) sai2)
 refine parse_mail (n:=2) (fcells_np _) ?_ (fun n=>fcells_low _) (fun n=>?_) h
 ·simp only [pcell2,pcell,noPtrs,PV.noPtr,fcells_np,List.cons_append,List.nil_append,Bool.and_true]
 ·simp only [pcell2,pcell,lows,PV.low,noPtrs,PV.noPtr,fcells_np,fcells_low,List.cons_append,List.nil_append,Bool.and_true]
theorem awake36:evW code lib36 15 [] [] []=some ([.flat (.bool true)],false,[],[]):=by
 have e1:=build_ev l36_b64 l36_qp l36_idx l36_last l36_con l36_pre l36_bld l36_nest m0 ⟨by decide,by decide,by decide,by decide,by decide⟩
 rw [res0,chk0] at e1
 have e2:=parse0
 simp only [mcell,m0] at e1
 have hl1:(mailF [97,64,98] [99,64,100] [120]).length=5:=rfl
 have hl2:(partF plainS).length=2:=rfl
 have hl3:(partF htmlS).length=2:=rfl
 have hnp1:=fcells_np (mailF [97,64,98] [99,64,100] [120])
 have hnp2:=fcells_np (partF plainS)
 have hnp3:=fcells_np (partF htmlS)
 simp only [pcell,pcell2,hl1,hl2,hl3] at e2
 refine evW_eq code_nunciolaw36_awake (Nat.le_of_ble_eq_true rfl) ?_
 generalize t0=t at *
 generalize typeU plainS=ty1 at *
 generalize typeU htmlS=ty2 at *
 generalize multiT=ty at *
 generalize fcells (mailF [97,64,98] [99,64,100] [120])=fm at *
 generalize fcells (partF plainS)=fp at *
 generalize fcells (partF htmlS)=fh at *
 simp (maxSteps:=999999) (disch:=first | assumption | omega) only [go_sem,simprocAttr,au,e1,e2,hnp1,hnp2,hnp3]
theorem linesL_app (A B:List Str) (st:List Fld × Bool):linesL (A++B) st=(linesL A st).bind (linesL B):=by
 unfold linesL;rw [List.foldlM_append];rfl
def mverS:Str:=[77,73,77,69,45,86,101,114,115,105,111,110]
def headL (m:Mail):List Str:=laidL enc64 fromS m.fr++(laidL enc64 toS m.to++(laidL enc64 subjS m.su++[mimeS,multiS]))
def part1 (kind s:Str):Str:=linesU [ctS++kind++csS,cteS]++13::10::encL 0 s
def bodyU (m:Mail):Str:=openB boundS++(part1 plainS m.te++(betwB boundS++(part1 htmlS m.ht++endB boundS)))
theorem build_eq (m:Mail):buildU enc64 (encL 0) m=linesU (headL m)++13::10::bodyU m:=by
 unfold buildU headL bodyU part1
 rw [laidU_lines,laidU_lines,laidU_lines,linesU_app,linesU_app,linesU_app]
 simp [partL,linesU,crlf,openB,betwB,endB,markS,boundS,endS,List.append_assoc]
theorem head_ok (m:Mail):(∀ x∈headL m,okLn x∧x≠[])∧∃ r1 r2 r3,linesL (headL m) ([],false)=some ([(fromS,r1),(toS,r2),(subjS,r3),(mverS,[32,49,46,48]),(ctN,32::multiV)],false):=by
 obtain ⟨a1,r1,a2⟩:=laidL_ok (enc:=enc64) (v:=m.fr) (f:=fromS) [] (by decide) (by decide) fun x hx=>words_ok m.fr x hx
 obtain ⟨b1,r2,b2⟩:=laidL_ok (enc:=enc64) (v:=m.to) (f:=toS) [(fromS,r1)] (by decide) (by decide) fun x hx=>words_ok m.to x hx
 obtain ⟨c1,r3,c2⟩:=laidL_ok (enc:=enc64) (v:=m.su) (f:=subjS) [(fromS,r1),(toS,r2)] (by decide) (by decide) fun x hx=>words_ok m.su x hx
 refine ⟨fun x hx=>?_,r1,r2,r3,?_⟩
 ·unfold headL at hx
  rcases List.mem_append.1 hx with hx | hx
  ·exact a1 x hx
  rcases List.mem_append.1 hx with hx | hx
  ·exact b1 x hx
  rcases List.mem_append.1 hx with hx | hx
  ·exact c1 x hx
  rcases List.mem_cons.1 hx with rfl | hx
  ·exact ⟨⟨by decide,by decide⟩,by decide⟩
  ·rw [List.mem_singleton.1 hx];exact ⟨⟨by decide,by decide⟩,by decide⟩
 ·unfold headL
  rw [linesL_app,a2,Option.bind_some,linesL_app]
  rw [show ([]++[(fromS,r1)]:List Fld)=[(fromS,r1)] from rfl,b2,Option.bind_some,linesL_app]
  rw [show ([(fromS,r1)]++[(toS,r2)]:List Fld)=[(fromS,r1),(toS,r2)] from rfl,c2,Option.bind_some]
  have h1:=field_line (f:=mverS) (r:=[32,49,46,48]) (F:=[(fromS,r1),(toS,r2),(subjS,r3)]) (by decide) ⟨by decide,by decide⟩
  have h2:=field_line (f:=ctN) (r:=32::multiV) (F:=[(fromS,r1),(toS,r2),(subjS,r3),(mverS,[32,49,46,48])]) (by decide) ⟨by decide,by decide⟩
  rw [show ([(fromS,r1),(toS,r2)]++[(subjS,r3)]:List Fld)=[(fromS,r1),(toS,r2),(subjS,r3)] from rfl]
  rw [linesL,List.foldlM_cons]
  rw [show mimeS=mverS++58::[32,49,46,48] from rfl,h1]
  show (List.foldlM lineStep _ [multiS])=_
  rw [List.foldlM_cons,show multiS=ctN++58::(32::multiV) from rfl]
  rw [show ([(fromS,r1),(toS,r2),(subjS,r3)]++[(mverS,[32,49,46,48])]:List Fld)=[(fromS,r1),(toS,r2),(subjS,r3),(mverS,[32,49,46,48])] from rfl,h2]
  rfl
theorem ok_13 {x:Str} (h:okLn x):∀ c∈x,c≠13:=fun c hc=>shB_13 c (List.all_eq_true.1 h.2 c hc)
theorem split_mail (m:Mail):∃ v1 v2 v3,splitL (buildU enc64 (encL 0) m)=.ok (mailF v1 v2 v3) ((linesU (headL m)).length+2):=by
 obtain ⟨h1,r1,r2,r3,h2⟩:=head_ok m
 refine ⟨trimB r1,trimB r2,trimB r3,?_⟩
 rw [build_eq,split_lines (headL m) (bodyU m) _ (fun x hx=>⟨(h1 x hx).2,ok_13 (h1 x hx).1⟩) h2]
 have e1:trimB [32,49,46,48]=[49,46,48]:=by decide +kernel
 have e2:trimB (32::multiV)=multiV:=by decide +kernel
 simp only [List.map_cons,List.map_nil,e1,e2,mailF,mverS]
theorem split_plain (s:Str):splitL (part1 plainS s)=.ok (partF plainS) ((linesU [ctS++plainS++csS,cteS]).length+2) :=
 split_lines [ctS++plainS++csS,cteS] (encL 0 s) [(ctN,32::valU plainS),(cteN,32::qpN)] (by decide +kernel) (by decide +kernel)
theorem split_html (s:Str):splitL (part1 htmlS s)=.ok (partF htmlS) ((linesU [ctS++htmlS++csS,cteS]).length+2) :=
 split_lines [ctS++htmlS++csS,cteS] (encL 0 s) [(ctN,32::valU htmlS),(cteN,32::qpN)] (by decide +kernel) (by decide +kernel)
theorem drop_line (a:Str) (r:Str):(a++13::10::r).drop (a.length+2)=r:=by
 rw [List.drop_append];simp
theorem noEq_part {kind s:Str} (hk:kind=plainS∨kind=htmlS):noEq (part1 kind s)=true:=by
 unfold part1
 have h:(linesU [ctS++kind++csS,cteS]++[13,10])++encL 0 s=linesU [ctS++kind++csS,cteS]++13::10::encL 0 s:=by simp
 rw [← h]
 refine noEq_app _ _ ?_ (noEq_enc s 0) (.inl ?_)
 ·rcases hk with rfl | rfl<;>decide +kernel
 ·rcases hk with rfl | rfl<;>decide +kernel
def Mail.few (m:Mail):Prop:=m.fr.length≤250∧m.to.length≤250∧m.su.length≤250∧m.te.length≤250∧m.ht.length≤250
theorem part1_len {kind s:Str} (hk:kind=plainS∨kind=htmlS) (hs:s.length≤250):(part1 kind s).length≤1600:=by
 have:=encL_len36 s 0
 have h:(linesU [ctS++kind++csS,cteS]).length≤90:=by rcases hk with rfl | rfl<;>decide +kernel
 unfold part1
 simp only [List.length_append,List.length_cons];omega
theorem built_len (m:Mail) (hm:m.few):(buildU enc64 (encL 0) m).length≤10000:=by
 obtain ⟨h1,h2,h3,h4,h5⟩:=hm
 have a:=laid_len fromS m.fr h1 (by decide)
 have b:=laid_len toS m.to h2 (by decide)
 have c:=laid_len subjS m.su h3 (by decide)
 have d:=part1_len (kind:=plainS) (.inl rfl) h4
 have e:=part1_len (kind:=htmlS) (.inr rfl) h5
 rw [build_eq]
 rw [laidU_lines] at a b c
 have l1:(linesU [mimeS,multiS]).length≤100:=by decide +kernel
 have l2:(openB boundS).length=12:=by decide
 have l3:(betwB boundS).length=14:=by decide
 have l4:(endB boundS).length=16:=by decide
 unfold headL bodyU
 simp only [linesU_app,List.length_append,List.length_cons,l2,l3,l4] at *
 omega
theorem built_parse (HS:LibSplit lib) (m:Mail) (hm:m.few):∃ v1 v2 v3,evW code lib 16 [.flat (.string (S (buildU enc64 (encL 0) m)))] [] []=some ([.agg (pcell2 (mailF v1 v2 v3) multiT (pcell (partF plainS) (typeU plainS) m.te 0 []) (pcell (partF htmlS) (typeU htmlS) m.ht 0 [])),.flat (.int .i64 0)],false,[],[]):=by
 obtain ⟨v1,v2,v3,hsp⟩:=split_mail m
 have hl:=built_len m hm
 obtain ⟨_,_,_,h4,h5⟩:=hm
 have d:=part1_len (kind:=plainS) (s:=m.te) (.inl rfl) h4
 have e:=part1_len (kind:=htmlS) (s:=m.ht) (.inr rfl) h5
 have t4:=encL_len36 m.te 0
 have t5:=encL_len36 m.ht 0
 have hb:boundS=61::95::[110,117,110,99,105,111]:=rfl
 have hbody:bodiesU (bodyU m) boundS=some ([part1 plainS m.te,part1 htmlS m.ht],true):=by
  unfold bodyU;rw [hb];exact bodies_two _ _ _ (noEq_part (.inl rfl)) (noEq_part (.inr rfl))
 have hbl:(bodyU m).length≤10000:=by rw [build_eq] at hl;simp only [List.length_append,List.length_cons] at hl;omega
 have hbo:=bodies_ev (lib:=lib) (bodyU m) boundS (by omega) (by decide)
 rw [hbody] at hbo
 have hdr:(buildU enc64 (encL 0) m).drop ((linesU (headL m)).length+2)=bodyU m:=by rw [build_eq];exact drop_line _ _
 have q1:(part1 plainS m.te).drop ((linesU [ctS++plainS++csS,cteS]).length+2)=encL 0 m.te:=drop_line _ _
 have q2:(part1 htmlS m.ht).drop ((linesU [ctS++htmlS++csS,cteS]).length+2)=encL 0 m.ht:=drop_line _ _
 have k1:(linesU [ctS++plainS++csS,cteS]).length+2≤(part1 plainS m.te).length:=by unfold part1;simp only [List.length_append,List.length_cons];omega
 have k2:(linesU [ctS++htmlS++csS,cteS]).length+2≤(part1 htmlS m.ht).length:=by unfold part1;simp only [List.length_append,List.length_cons];omega
 have k3:(linesU (headL m)).length+2≤(buildU enc64 (encL 0) m).length:=by rw [build_eq];simp only [List.length_append,List.length_cons];omega
 have r1:=read_part HS (.inl rfl) (part1 plainS m.te) m.te _ 1 2 (by omega) (split_plain m.te) k1 (by rw [q1];exact said_qp m.te (by omega))
 have r2:=read_part HS (.inr rfl) (part1 htmlS m.ht) m.ht _ 1 2 (by omega) (split_html m.ht) k2 (by rw [q2];exact said_qp m.ht (by omega))
 have h:=read_mail HS (buildU enc64 (encL 0) m) (part1 plainS m.te) (part1 htmlS m.ht) m.te m.ht v1 v2 v3 _ hl hsp k3 (by rw [hdr];exact hbo) r1 r2
 refine ⟨v1,v2,v3,parse_mail (n:=2) (fcells_np _) ?_ (fun n=>fcells_low _) (fun n=>?_) h⟩
 ·simp only [pcell2,pcell,noPtrs,PV.noPtr,fcells_np,List.cons_append,List.nil_append,Bool.and_true]
 ·simp only [pcell2,pcell,lows,PV.low,noPtrs,PV.noPtr,fcells_np,fcells_low,List.cons_append,List.nil_append,Bool.and_true]
theorem built_scan (m:Mail):scanU 0 (buildU enc64 (encL 0) m)=true:=by
 obtain ⟨h1,_⟩:=head_ok m
 have e:bodyU m=linesU [markS,ctS++plainS++csS,cteS,[]]++(encL 0 m.te++13::10::(linesU [markS,ctS++htmlS++csS,cteS,[]]++(encL 0 m.ht++13::10::linesU [endS]))):=by
  unfold bodyU part1
  simp [linesU,crlf,openB,betwB,endB,markS,boundS,endS,List.append_assoc]
 have ok:∀ L:List Str,(L.all fun x=>decide (x.length≤76) && x.all shB)=true→∀ x∈L,okLn x:=fun L h x hx=>by
  have:=List.all_eq_true.1 h x hx
  rw [Bool.and_eq_true,decide_eq_true_eq] at this
  exact this
 rw [build_eq,scan_lines _ _ fun x hx=>(h1 x hx).1,scan_crlf,e,scan_lines _ _ (ok _ (by decide +kernel)),scan_enc _ 0 _ (by omega),scan_lines _ _ (ok _ (by decide +kernel)),scan_enc _ 0 _ (by omega)]
 decide +kernel
theorem walk_scan {bx:Boxes}:∀ (l:Str) (n k:Nat),scanU n l=true →
 walkL (fun (n:Nat) _ (x:UInt8)=>if (decide (x.toNat≤126) && (decide (lineN n x≤76) || decide (x=13))) then .inl (lineN n x) else .inr (.ret,⟨[(2,.flat (.bool false))],[],[],bx⟩)) (fun _=>(.exit 2,⟨[],[],[],bx⟩)) n k l=(.exit 2,⟨[],[],[],bx⟩)
 | [],n,k,_=>rfl
 | c::t,n,k,h=>by
   rw [scanU,Bool.and_eq_true] at h
   rw [walkL]
   simp only [h.1,if_true]
   exact walk_scan t _ _ h.2
theorem holds_loop (s:Str) (q1 q2:Nat × List PV) (hs:s.length≤100000) (h:scanU 0 s=true) :
 evLoop (evC (evW code lib) big b_nunciolaw36_EmailHolds_1) [3,9,10] 2 big ⟨[(3,.flat (.string (S s))),(9,.flat (.int .i64 0)),(10,.flat (.int .i64 0))],[],[],[q1,q2]⟩=some (.exit 2,⟨[],[],[],[q1,q2]⟩):=by
 have hloop:=loop_at (body:=evC (evW code lib) big b_nunciolaw36_EmailHolds_1) (live:=[3,9,10]) (nb:=2) (fun (n:Nat) k=>⟨[(3,.flat (.string (S s))),(9,.flat (.int .i64 (n:Nat))),(10,.flat (.int .i64 (k:Nat)))],[],[],[q1,q2]⟩) s (fun n k=>n≤k)
  (fun n k x=>if (decide (x.toNat≤126) && (decide (lineN n x≤76) || decide (x=13))) then .inl (lineN n x) else .inr (.ret,⟨[(2,.flat (.bool false))],[],[],[q1,q2]⟩)) (fun n=>(.exit 2,⟨[],[],[],[q1,q2]⟩)) (fun n k c hi hk hc hd=>?_) (fun _ _=>by simp only [go_sem,simprocAttr]) (fun n k x a' hi _ _ h=>by
    split at h
    ·cases h;unfold lineN;split<;>omega
    ·cases h) (fun _ _ x r h=>by split at h<;>simp at h;rw [← h];simp) (fun n hn=>?_) (fun _=>by simp) 0 (Nat.le_refl _) (by unfold big;omega)
 ·rw [walk_scan s 0 0 h] at hloop
  simp only [n0] at hloop
  exact hloop
 ·have e13:decide (c=13)=decide (c.toNat=13):=by
   apply decide_eq_decide.2
   exact ⟨fun h=>by rw [h];rfl,fun h=>UInt8.toNat_inj.1 h⟩
  have e10:(c=10)=(c.toNat=10):=by
   apply propext
   exact ⟨fun h=>by rw [h];rfl,fun h=>UInt8.toNat_inj.1 h⟩
  rw [e13]
  unfold lineN
  simp only [e10]
  have hcb:c.toNat<256:=c.toNat_lt
  obtain ⟨x,hx⟩:∃ x,c.toNat=x:=⟨_,rfl⟩
  rw [hx] at hcb ⊢
  by_cases h10:x=10
  ·subst h10
   have q1:decide ((10:Nat)≤126)=true:=rfl
   simp only [if_true,q1,Bool.true_and,Nat.zero_le,decide_true,Bool.true_or]
   simp (maxSteps:=999999) (disch:=first | assumption | omega) only [go_sem,simprocAttr,au,hc,hx,on_nunciolaw36_EmailHolds_1]
  ·simp only [h10,if_false]
   have h10':=eq_false h10
   by_cases h126:x≤126
   ·by_cases h76:n+1≤76
    ·simp only [h126,h76,decide_true,Bool.true_or,Bool.and_true,if_true]
     simp (maxSteps:=999999) (disch:=first | assumption | omega) only [go_sem,simprocAttr,au,hc,hx,h10',on_nunciolaw36_EmailHolds_1]
    ·by_cases h13:x=13
     ·subst h13
      have q1:decide ((13:Nat)≤126)=true:=rfl
      simp only [q1,decide_true,Bool.or_true,Bool.and_true,if_true]
      simp (maxSteps:=999999) (disch:=first | assumption | omega) only [go_sem,simprocAttr,au,hc,hx,on_nunciolaw36_EmailHolds_1]
     ·simp only [h126,h76,h13,decide_true,decide_false,Bool.or_false,Bool.and_false,Bool.false_eq_true,if_false]
      have h13':=eq_false h13
      simp (maxSteps:=999999) (disch:=first | assumption | omega) only [go_sem,simprocAttr,au,hc,hx,h10',h13',on_nunciolaw36_EmailHolds_1]
   ·simp only [h126,decide_false,Bool.false_and,Bool.false_eq_true,if_false]
    simp (maxSteps:=999999) (disch:=first | assumption | omega) only [go_sem,simprocAttr,au,hc,hx,h10',on_nunciolaw36_EmailHolds_1]
 ·simp (maxSteps:=999999) (disch:=first | assumption | omega) only [go_sem,simprocAttr,au,on_nunciolaw36_EmailHolds_1]
theorem few_short (m:Mail):m.short.few:=by
 unfold Mail.short Mail.few
 simp only [List.length_take];omega
set_option maxHeartbeats 4000000 in
theorem holds_ev (HS:LibSplit lib) (HE:LibB64 lib enc64) (HQ:LibQp lib (encL 0)) (HI:LibIdx lib) (HL:LibLast lib) (HC:LibCon lib) (HP:LibPre lib) (HB:BldIn lib) (HN:LibNest lib)
 (HA:evW code lib 15 [] [] []=some ([.flat (.bool true)],false,[],[])) (m:Mail) (h1:m.fr.length≤9223372036854775807) (h2:m.to.length≤9223372036854775807) (h3:m.su.length≤9223372036854775807) (h4:m.te.length≤9223372036854775807) (h5:m.ht.length≤9223372036854775807) :
 evW code lib 4 [.agg (mcell m)] [] []=some ([.flat (.bool true)],false,[],[]):=by
 have e1:=short36_ev (lib:=lib) m h1 h2 h3 h4 h5
 have e3:=build_ev HE HQ HI HL HC HP HB HN m.short (short_small m)
 obtain ⟨v1,v2,v3,e4⟩:=built_parse HS m.short (few_short m)
 have hlen:=built_len m.short (few_short m)
 have hsc:=built_scan m.short
 unfold resB at e3
 obtain ⟨s,hs⟩:∃ s,buildU enc64 (encL 0) m.short=s:=⟨_,rfl⟩
 obtain ⟨c,hc⟩:∃ c,checkU m.short=c:=⟨_,rfl⟩
 rw [hs,hc] at e3
 rw [hs] at e4 hlen hsc
 clear HS HE HQ HI HL HC HP HB HN hs hc
 obtain ⟨⟨b1,b2,b3,b4,b5⟩,hb⟩:∃ b,m.short=b:=⟨_,rfl⟩
 rw [hb] at e1 e3 e4
 clear hb
 obtain ⟨m1,m2,m3,m4,m5⟩:=m
 simp only [mcell] at e1 e3 e4 ⊢
 have hl1:(mailF v1 v2 v3).length=5:=rfl
 have hl2:(partF plainS).length=2:=rfl
 have hl3:(partF htmlS).length=2:=rfl
 have hnp2:=fcells_np (partF plainS)
 have hnp3:=fcells_np (partF htmlS)
 have hlo2:=fun n=>fcells_low (n:=n) (partF plainS)
 have hlo3:=fun n=>fcells_low (n:=n) (partF htmlS)
 have g1:typeU plainS=[116,101,120,116,47,112,108,97,105,110]:=rfl
 have g2:typeU htmlS=[116,101,120,116,47,104,116,109,108]:=rfl
 simp only [pcell,pcell2,hl1,hl2,hl3,g1,g2,multiT] at e4
 generalize fcells (partF plainS)=fp at *
 generalize fcells (partF htmlS)=fh at *
 simp only [mailF,fcells,fromS,toS,subjS,ctN] at e4
 have hl4:=fun q1 q2=>holds_loop (lib:=lib) s q1 q2 (by omega) hsc
 simp only [big_on,loop_on,Nat.reduceAdd] at hl4
 refine evW_eq code_nunciolaw36_EmailHolds (Nat.le_of_ble_eq_true rfl) ?_
 by_cases hc:c=0
 ·subst hc
  simp only [if_true] at e3
  simp only [n0] at e3
  simp (maxSteps:=999999) (disch:=first | assumption | omega) only [go_sem,simprocAttr,au,e1,e3,e4,hl4,HA,hnp2,hnp3,hlo2,hlo3,BEq.rfl,big_on,loop_on,kLoop_n,kLoop_e,on_nunciolaw36_EmailHolds_0]
 ·rw [if_neg hc] at e3
  have hc':((c:Int)=0)=False:=by apply eq_false;omega
  simp (maxSteps:=999999) (disch:=first | assumption | omega) only [go_sem,simprocAttr,au,e1,e3,HA,hc']
end Nun
end
section
namespace Nun
open Go
variable {H:Type} {enc:TypeId × Value→H}
theorem returnsInHanded_of_change_and_shaped {a:Assume} {C:Checked} {os:Os} {f:FuncId} {fn:Func} {s:ChangeSpec} {conds:List PathCond} {apart fresh handsOn again:Bool} {X:World→Array Value→Prop}
 (hX:∀ (w w':World) (args:Array Value),w.heap=w'.heap→X w args→X w' args)
 (own:ownKnob C.prog.godebug=none) (started:os.Started) (noInit:C.prog.inits.idxOf? f=none) (hfn:C.prog.funcs[f]? =some fn)
 (witness:∃ (w:World) (tape:Tape) (i:Input),w.os=os∧(w.forCall tape i).Shaped C.prog∧i.vars=[]∧Input.okWide C.prog (w.forCall tape i) .any w.heap.size f i ∧
   ((s.pre enc C.prog fn conds apart (w.forCall tape i).memory i.args∧X (w.forCall tape i).memory i.args)∧sizedMet enc C.prog fn (OpenSpec.ofChange s) apart (w.forCall tape i).memory i.args)∧a.holds C.prog (lone (Frame.enter C.prog f i.args .normal) [] (w.forCall tape i)))
 (contract:∀ (W:World) (base:Nat) (args:Array Value) (ds gs:List (DataW H)) (before:List MemPlace),
   (∀ (j:Nat) t v,fn.params[j]? =some t→args[j]? =some v→Value.okWide C.prog W .any base t v) →
   DataW.Whole enc C.prog fn.params.toList s.vars apart W args.toList ds gs before →
   conds.all (PathCond.test C.prog ⟨fn.params.toList,ds,s.plain.varTypes C.prog,gs⟩)=true →
   (DataW.weightsEach C.prog (fn.params.toList++s.plain.varTypes C.prog) (ds++gs)).all (·≤reachBytes)=true→X W args →
   W.ShapedOpen C.prog →
   a.holds C.prog (lone (Frame.enter C.prog f args .normal) [] W) →
   Calls C.prog f args W fun e W'=>∃ v,e=.returned v∧s.post enc C.prog fn apart fresh handsOn again W args v W') :
 ReturnsInHanded a C os f .any (fun w args=>(s.pre enc C.prog fn conds apart w args∧X w args)∧sizedMet enc C.prog fn (OpenSpec.ofChange s) apart w args) (s.post enc C.prog fn apart fresh handsOn again):=by
 refine returnsInHanded_of_calls own started noInit witness ?_
 intro w tape i _ hsh _ hok hpre hholds
 obtain ⟨_,_,_,fn',hfn',_,_,_,_,hval⟩:=hok
 have e:fn'=fn:=Option.some.inj (hfn'.symm.trans hfn)
 subst e
 obtain ⟨⟨⟨ds,gs,before,hw,hc⟩,hx⟩,hz⟩:=hpre
 have hw':=DataW.Whole.of_heap (w':=w.forCall tape i) (by rfl) hw
 refine (contract (w.forCall tape i) w.heap.size i.args ds gs before hval hw' hc (hz.weights hw) (hX _ _ _ (by rfl) hx) hsh hholds).mono fun e W' ⟨v,he,hp⟩=>?_
 subst he
 exact ChangeSpec.post_blind hp
end Nun
end
section
namespace Nun
open Go
theorem cells_of_strs {H:Type} {enc:TypeId × Value→H} {P:Program} {w:World} {base:Nat} {sp:Nat→Bool} {held:Bool} {fuel:Nat} {t e:TypeId} {n:Nat} {cs:List Value} {zs:List (List UInt8)} {p:List MemPlace}
 (ht:P.underlying t=some (.array n e)) (he:P.underlying e=some .string) (hce:P.cellsOf e=1)
 (h:DataW.trod enc P w base sp held fuel t cs=some (.agg (zs.map fun z=>.lit (.string z)),p)) (i:Nat) (z:List UInt8) (hz:zs[i]? =some z):cs[i]? =some (.string ⟨z.toArray⟩):=by
 obtain ⟨xs,m,rfl,hx,hl,hn,hel⟩:=DataW.trod_array ht h
 simp only [Prod.mk.injEq,DataW.agg.injEq] at hx
 have hi:i<n:=by
  have h1:zs.length=xs.length:=by simpa using congrArg List.length hx.1
  have h2:=(List.getElem?_eq_some_iff.1 hz).1
  omega
 have hxi:=hel i hi
 rw [hce,Nat.mul_one] at hxi
 obtain ⟨y,hy⟩:∃ y,xs[i]? =some y:=⟨_,List.getElem?_eq_getElem (by omega)⟩
 rw [hy] at hxi
 obtain ⟨s,h1,rfl,_⟩:=DataW.trod_string he hxi
 have h2:(xs.map (·.1))[i]? =some (.lit (.string s.data.toList)):=by simp [hy]
 rw [← hx.1] at h2
 simp [hz] at h2
 have h3:=congrArg (·[0]?) h1
 simp [List.getElem?_take,List.getElem?_drop] at h3
 rw [h3,h2]
end Nun
namespace Go.Proofs.YtmpiobfdchlikaaGreatDoor
open Go.ChangeShapes Go.WideShapes Go.ChangeAt Go.RowKit Nun
theorem gTable:Tryz.prog.globalNamed "nuncio/b64.table"=some 1:=by kernel_rfl
theorem tTable:(Tryz.prog.globals[1]?).map (·.type)=some 235:=by kernel_rfl
theorem cString:Tryz.prog.cellsOf 9=1:=by kernel_rfl
theorem door_met (os:Os) (args:Array Value):laidMetH Tryz.prog [("nuncio/b64.table",Rows.laid_nuncio_b64_table)] ((World.doorLaid Tryz.prog 400 os).forCall (fun _ _=>0) ⟨#[],args,[]⟩).memory :=
 laidMetH_of_parts3 (fuel:=8) (laidMet_of_run' 8 (by kernel_rfl) (by kernel_rfl)) (by kernel_rfl) (by kernel_rfl)
theorem tab_of_laid {W:World} (h:laidMetH Tryz.prog [("nuncio/b64.table",Rows.laid_nuncio_b64_table)] W):Tab W:=by
 rw [MakeChecks.laidMetH_plain _ _ _ (by kernel_rfl)] at h
 obtain ⟨ps,⟨g0,t0,cs0,f0,p0,q0,hg0,ht0,hv0,hd0,_,_⟩,_,_⟩:=h
 obtain rfl:=Option.some.inj (gTable.symm.trans hg0)
 obtain rfl:=Option.some.inj (tTable.symm.trans ht0)
 intro i hi
 have hr:([tabRow 0,tabRow 1,tabRow 2,tabRow 3]:List (List UInt8))[i]? =some (tabRow i):=by
  match i,hi with
  | 0,_=>rfl
  | 1,_=>rfl
  | 2,_=>rfl
  | 3,_=>rfl
 have:=cells_of_strs (zs:=[tabRow 0,tabRow 1,tabRow 2,tabRow 3]) Tryz.underlying235 Tryz.underlying9 cString hd0 i _ hr
 have hc:=World.var?_cell hg0 hv0 i
 rw [hc];simpa using this
end Go.Proofs.YtmpiobfdchlikaaGreatDoor
end
section
set_option synthInstance.maxSize 4000
set_option maxRecDepth 100000
namespace Nun
open Go Go.RowKit Go.Proofs Go.Proofs.YtmpiobfdchlikaaGreatDoor
theorem fact36 {W:World} (hL:laidMetH Tryz.prog [("nuncio/b64.table",Rows.laid_nuncio_b64_table)] W) (h:W.ShapedOpen Tryz.prog):G36 W :=
 ⟨Go.Proofs.cell_of_shapedOpen_int (zero:=#[.int .i64 0]) (t:=3) h (of_decide_eq_true (by kernel_rfl)) (by kernel_rfl) rfl (by kernel_rfl) (by kernel_rfl) Tryz.underlying3,tab_of_laid hL⟩
theorem str_one {n:Nat} {ps:List PV} (h:fit Tryz.prog n 9 ps):∃ s:Str,ps=[.flat (.string (S s))]∧s.length≤9223372036854775807:=by
 cases n with
 | zero=>cases h
 | succ n =>
   simp only [fit,Tryz.underlying9] at h
   obtain ⟨s,rfl,hs⟩:=h
   refine ⟨s.data.toList,rfl,?_⟩
   have:s.data.toList.length=s.size:=rfl
   rw [this];unfold maxLen at hs;omega
theorem fit_mail {n:Nat} {ps:List PV} (h:fit Tryz.prog n 23 ps):∃ m:Mail,ps=mcell m∧m.fr.length≤9223372036854775807∧m.to.length≤9223372036854775807∧m.su.length≤9223372036854775807∧m.te.length≤9223372036854775807∧m.ht.length≤9223372036854775807:=by
 cases n with
 | zero=>cases h
 | succ n =>
   simp only [fit,Tryz.underlying23] at h
   obtain ⟨xss,rfl,hl,hx⟩:=h
   obtain ⟨a,b,c,d,e,rfl⟩:∃ a b c d e,xss=[a,b,c,d,e]:=by
    match xss,hl with
    | [a,b,c,d,e],_=>exact ⟨a,b,c,d,e,rfl⟩
   obtain ⟨s0,rfl,h0⟩:=str_one (hx 0 _ a rfl rfl)
   obtain ⟨s1,rfl,h1⟩:=str_one (hx 1 _ b rfl rfl)
   obtain ⟨s2,rfl,h2⟩:=str_one (hx 2 _ c rfl rfl)
   obtain ⟨s3,rfl,h3⟩:=str_one (hx 3 _ d rfl rfl)
   obtain ⟨s4,rfl,h4⟩:=str_one (hx 4 _ e rfl rfl)
   exact ⟨⟨s0,s1,s2,s3,s4⟩,rfl,h0,h1,h2,h3,h4⟩
theorem fitA_mail {n:Nat} {p:PV} (h:fitA Tryz.prog n 23 p):∃ m:Mail,p=.agg (mcell m)∧m.fr.length≤9223372036854775807∧m.to.length≤9223372036854775807∧m.su.length≤9223372036854775807∧m.te.length≤9223372036854775807∧m.ht.length≤9223372036854775807:=by
 simp only [fitA,Tryz.underlying23] at h
 obtain ⟨ps,rfl,h⟩:=h
 obtain ⟨m,rfl,hm⟩:=fit_mail h
 exact ⟨m,rfl,hm⟩
theorem ok36:CallOk Tryz.prog Γ36 (evW code lib36):=evW_ok Tryz.checked.mixed (by kernel_rfl) code_ok lib36_ok
theorem walk_emailHolds (W:World) (hm:G36 W) (pvs:List PV) (vs:List Value) (hr:Rds W (Fr0 W) [] pvs vs) (hf:fits Tryz.prog Tryz.f4.params.toList pvs):Calls Tryz.prog 4 vs.toArray W (Ret (.bool true) W):=by
 rw [Tryz.params4] at hf
 match pvs,hf with
 | [p],⟨⟨n,h1⟩,_⟩ =>
   obtain ⟨m,rfl,a1,a2,a3,a4,a5⟩:=fitA_mail h1
   exact calls_of ok36 (by decide) (holds_ev l36_split l36_b64 l36_qp l36_idx l36_last l36_con l36_pre l36_bld l36_nest awake36 m a1 a2 a3 a4 a5) hm hr
end Nun
namespace Go.Proofs.YtmpiobfdchlikaaGreatDoor
open Go.RowKit Nun
open Go.ChangeShapes Go.WideShapes Go.ChangeAt
namespace emailHoldsDone
theorem own:ownKnob Tryz.prog.godebug=none:=by kernel_rfl
theorem kids:Kids Tryz.prog (·<Tryz.prog.types.size):=kids_rows (by kernel_rfl) (by kernel_rfl)
theorem full:∀ t e,t<Tryz.prog.types.size→Tryz.prog.underlying t=some (.slice e)→0<Tryz.prog.cellsOf e:=slices_full_of Tryz.prog (by kernel_rfl)
theorem typed:∀ t∈Tryz.f4.params.toList,t<Tryz.prog.types.size:=fun t ht=>by
 rw [Tryz.params4] at ht
 have hall:([23].all fun u=>decide (u<Tryz.prog.types.size))=true:=by kernel_rfl
 exact of_decide_eq_true (List.all_eq_true.1 hall t ht)
set_option maxRecDepth 100000 in
theorem lifted (os:Os) (started:os.Started) (H:Type) (enc:TypeId × Value→H) :
 ReturnsInHanded {} Tryz.checked os 4 .any (fun w args=>(Rows.emailHoldsSpec.pre enc Tryz.prog Tryz.f4 [] false w args∧laidMetH Tryz.prog [("nuncio/b64.table",Rows.laid_nuncio_b64_table)] w)∧sizedMet enc Tryz.prog Tryz.f4 (OpenSpec.ofChange Rows.emailHoldsSpec) false w args)
  (Rows.emailHoldsSpec.post enc Tryz.prog Tryz.f4 false true false false):=by
 refine returnsInHanded_of_change_and_shaped (C:=Tryz.checked) (X:=fun w _=>laidMetH Tryz.prog [("nuncio/b64.table",Rows.laid_nuncio_b64_table)] w) (fun _ _ _ hh h=>h.of_heap hh) own started (by kernel_rfl) Tryz.func4
  (ChangeSpec.witness_shaped (enc:=enc) (C:=Tryz.checked) (os:=os) (X:=fun w _=>laidMetH Tryz.prog [("nuncio/b64.table",Rows.laid_nuncio_b64_table)] w) false (World.doorLaid Tryz.prog 400 os) #[.agg #[.string ⟨#[]⟩,.string ⟨#[]⟩,.string ⟨#[]⟩,.string ⟨#[]⟩,.string ⟨#[]⟩]] 8 rfl (World.shaped_of_RefB (by kernel_rfl) (by kernel_rfl)) (by kernel_rfl) (by kernel_rfl) (by kernel_rfl) (door_met os _)) ?_
 intro W base args ds gs before hval0 hW _ _ hL hsh _
 have hW':=hW
 obtain ⟨p,q,hA,_⟩:=hW
 obtain ⟨pvs,k1,k2⟩:=args_open kids full typed (fun j t v h1 h2=>hval0 j t v (by simpa using h1) (by simpa using h2)) hA
 have hlen:=trodAll_len hA
 have hc:=walk_emailHolds W (fact36 hL hsh) pvs args.toList k1 k2
 rw [Array.toArray_toList] at hc
 refine hc.mono fun e W' ⟨he,bel⟩=>?_
 subst he
 refine ⟨_,rfl,post_law (tb:=4) kids full hW' rfl ?_ rfl Tryz.underlying4 typed bel⟩
 rw [Tryz.params4] at hlen
 match ds,hlen with
 | [d0],_=>rfl
theorem over:Rows.emailHoldsRow.holds Tryz.pinned (OpenSpec.ofChange Rows.emailHoldsSpec) :=
 OpenClaim.holds_of_wide 4 Tryz.f4 rfl rfl rfl rfl rfl rfl rfl ⟨rfl,rfl,rfl,rfl,rfl⟩ rfl rfl rfl rfl rfl (by kernel_rfl) Tryz.func4 (by kernel_rfl)
  (of_decide_eq_true (by kernel_rfl)) (by unfold Func.isWrapper;first | (rw [if_pos (by decide +kernel)];kernel_rfl) | (rw [if_neg (by decide +kernel)];exact ⟨rfl,rfl⟩))
  (fun os started H enc _=>lifted os started H enc)
theorem proved:Rows.EmailHoldsCardSaid :=
 Claim7.holds_tied_plain_at .later [] [.data] true (true,"e420b8c8c04be5be850ab7770be3e24bcc9ecd9650fc6a74deb89aa4cf9c60c4") true
  over (fun _ h=>by cases h) (by kernel_rfl) (fun _ h=>by cases h) emailHolds_row_tie rfl ⟨rfl,rfl⟩ (by kernel_rfl) rfl
  (fun f fn hf hfn=>by
    obtain rfl:f=4:=Option.some.inj ((show Tryz.prog.funcNamed "nuncio/nunciolaw36.EmailHolds"=some 4 by kernel_rfl).symm.trans hf) |>.symm
    obtain rfl:fn=Tryz.f4:=(Option.some.inj (Tryz.func4.symm.trans hfn)).symm
    exact ⟨by kernel_rfl,fun j t ht=>by
     rw [Tryz.params4] at ht
     have hm:t∈[23]:=by simpa using Array.mem_of_getElem? ht
     have hall:([23].all fun u=>!Tryz.prog.wantsStandIn u)=true:=by kernel_rfl
     exact (show Tryz.prog.wantsStandIn t=false by simpa using List.all_eq_true.1 hall t hm)⟩)
  (by kernel_rfl)
end emailHoldsDone
end Go.Proofs.YtmpiobfdchlikaaGreatDoor
end

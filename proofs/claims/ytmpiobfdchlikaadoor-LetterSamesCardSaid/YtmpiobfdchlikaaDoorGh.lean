/- LetterSames answers true for all letters: texts of this proof, merged. -/
import Derived.Test.YtmpiobfdchlikaaDoorGg
import Derived.KernelRfl
import Derived.Test.YtmpiobfdchlikaaDoorRows
import Derived.LaidMore
import Derived.ProofKit
import Derived.OpenShut
import Derived.Stop.Joined
import Derived.Handed
import Derived.HandedShaped
import Derived.Lib.LaidU8
import Derived.Shelf.Vars
import Derived.Test.YtmpiobfdchlikaaDoorTie
import Derived.Test.YtmpiobfdchlikaaDoorCards
import Derived.SevenTiedAt
set_option linter.unusedVariables false
set_option linter.unusedSimpArgs false
section
namespace Nun
def nextOk:List UInt8→Bool | []=>false | d::_=>d != 10
def piece (c:UInt8) (t:List UInt8):List UInt8:=if plainB c || ((c == 32 || c == 9) && nextOk t) then [c] else 61::pair c
theorem piece_len (c:UInt8) (t:List UInt8):0<(piece c t).length∧(piece c t).length≤3:=by unfold piece;split<;>simp [pair]
def encL:Nat→List UInt8→List UInt8
 | _,[]=>[]
 | line,c::t=>if c=10 then 13::10::encL 0 t
   else if line+(piece c t).length > 75 then [61,13,10]++(piece c t++encL (piece c t).length t) else piece c t++encL (line+(piece c t).length) t
theorem piece_one {s:List UInt8} {k:Nat} (hk:k<s.length) (h:plainB s[k]=true∨((s[k]=32∨s[k]=9)∧∃ h:k+1<s.length,s[k+1]≠10)):piece s[k] (s.drop (k+1))=[s[k]]:=by
 unfold piece
 rcases h with h | ⟨h,h2,h3⟩
 ·rw [if_pos (by simp [h])]
 ·rw [List.drop_eq_getElem_cons h2,if_pos]
  rcases h with h | h<;>simp [h,nextOk,h3]
theorem piece_three {s:List UInt8} {k:Nat} (hk:k<s.length) (hp:plainB s[k]=false) (h:(s[k]≠32∧s[k]≠9)∨s.length≤k+1∨∃ h:k+1<s.length,s[k+1]=10):piece s[k] (s.drop (k+1))=61::pair s[k]:=by
 unfold piece
 rw [if_neg]
 rcases h with ⟨h,h'⟩ | h | ⟨h,h'⟩
 ·simp [hp,h,h']
 ·rw [List.drop_of_length_le h];simp [hp,nextOk]
 ·rw [List.drop_eq_getElem_cons h];simp [hp,nextOk,h']
end Nun
namespace Go.Proofs.YtmpiobfdchlikaaDoor
open Go.RowKit Nun
set_option maxHeartbeats 2000000 in
set_option maxRecDepth 100000 in
theorem piece_ref (s:ByteArray) (k:Nat) (w:World) (hs:s.size≤1000000000) (hk:k<s.size):Calls Tryd.prog 18 #[.string s,.int .i64 k] w (Ret (.string ⟨(piece s[k] (s.data.toList.drop (k+1))).toArray⟩) w):=by
 have kc:=fun (w:World) (x:UInt8)=>conv_one (P:=Tryd.prog) Tryd.underlying73 Tryd.underlying5 Tryd.underlying9 w x
 have hpl:(pair s[k]).length≤2:=by simp [pair]
 generalize hp:plainB s[k]=bp
 have HP:=Lib.hid hp;clear hp
 cases bp
 ·by_cases hbl:s[k]=32∨s[k]=9
  ·have q:∃ b,((s[k].toNat:Int) == 32)=b∧(b=false→((s[k].toNat:Int) == 9)=true):=by
    refine ⟨_,rfl,fun h=>?_⟩
    rcases hbl with h' | h'
    ·rw [h'] at h;cases h
    ·rw [h'];rfl
   obtain ⟨b,q1,q2⟩:=q
   by_cases hn:k+1<s.size
   ·have i1:(k:Int)<(s.size:Int) - 1:=by omega
    have i2:(k:Int)+1<(s.size:Int):=by omega
    by_cases h10:s[k+1]=10
    ·have HE:=Lib.hid (show piece s[k] (s.data.toList.drop (k+1))=_ from piece_three (s:=s.data.toList) hk HP.out (.inr (.inr ⟨hn,h10⟩)))
     have q3:((s[k+1].toNat:Int) == 10)=true:=by rw [h10];rfl
     have q4:((s[k+1].toNat:Int) != 10)=false:=by rw [h10];rfl
     clear h10 hbl
     cases b
     all_goals (try replace q2:=q2 rfl)
     all_goals
      go_enter Tryd.func18,Tryd.ntmps18
      go_wp2_with (first | (go_at_call 33;refine (plain_of_ref _ _ HP.out _).mono ?_;rintro e w1 ⟨rfl,rfl⟩) | (go_at_call 34;refine (pair_ref _ _).mono ?_;rintro e w1 ⟨rfl,hb1⟩))
      go_ret
      exact ⟨by rw [HE.out];exact r1 (vS (by simp [ByteArray.toList_data_append];rfl)),(by repeat (first | assumption | exact Below.refl _ _ | refine below_of ?_ (by assumption)))⟩
    ·have HE:=Lib.hid (show piece s[k] (s.data.toList.drop (k+1))=_ from piece_one (s:=s.data.toList) hk (.inr ⟨hbl,hn,h10⟩))
     have q3:((s[k+1].toNat:Int) == 10)=false:=by simp [← UInt8.toNat_inj] at h10 ⊢;omega
     have q4:((s[k+1].toNat:Int) != 10)=true:=by simp [← UInt8.toNat_inj] at h10 ⊢;omega
     clear h10 hbl
     cases b
     all_goals (try replace q2:=q2 rfl)
     all_goals
      go_enter Tryd.func18,Tryd.ntmps18
      go_wp2_with (first | (go_at_call 33;refine (plain_of_ref _ _ HP.out _).mono ?_;rintro e w1 ⟨rfl,rfl⟩) | (go_at_call 34;refine (pair_ref _ _).mono ?_;rintro e w1 ⟨rfl,hb1⟩))
      go_ret
      exact ⟨by rw [HE.out];rfl,(Below.refl _ _).alloc (Nat.le_refl _) _⟩
   ·have HE:=Lib.hid (show piece s[k] (s.data.toList.drop (k+1))=_ from piece_three (s:=s.data.toList) hk HP.out (.inr (.inl (by show s.size≤_;omega))))
    have i1:¬ (k:Int)<(s.size:Int) - 1:=by omega
    clear hbl
    cases b
    all_goals (try replace q2:=q2 rfl)
    all_goals
     go_enter Tryd.func18,Tryd.ntmps18
     go_wp2_with (first | (go_at_call 33;refine (plain_of_ref _ _ HP.out _).mono ?_;rintro e w1 ⟨rfl,rfl⟩) | (go_at_call 34;refine (pair_ref _ _).mono ?_;rintro e w1 ⟨rfl,hb1⟩))
     go_ret
     exact ⟨by rw [HE.out];exact r1 (vS (by simp [ByteArray.toList_data_append];rfl)),(by repeat (first | assumption | exact Below.refl _ _ | refine below_of ?_ (by assumption)))⟩
  ·have h32:¬ s[k]=32:=fun h=>hbl (.inl h)
   have h9:¬ s[k]=9:=fun h=>hbl (.inr h)
   have HE:=Lib.hid (show piece s[k] (s.data.toList.drop (k+1))=_ from piece_three (s:=s.data.toList) hk HP.out (.inl ⟨h32,h9⟩))
   have q1:((s[k].toNat:Int) == 32)=false:=by simp [← UInt8.toNat_inj] at h32 ⊢;omega
   have q2:((s[k].toNat:Int) == 9)=false:=by simp [← UInt8.toNat_inj] at h9 ⊢;omega
   clear hbl h32 h9
   go_enter Tryd.func18,Tryd.ntmps18
   go_wp2_with (first | (go_at_call 33;refine (plain_of_ref _ _ HP.out _).mono ?_;rintro e w1 ⟨rfl,rfl⟩) | (go_at_call 34;refine (pair_ref _ _).mono ?_;rintro e w1 ⟨rfl,hb1⟩))
   go_ret
   exact ⟨by rw [HE.out];exact r1 (vS (by simp [ByteArray.toList_data_append];rfl)),(by repeat (first | assumption | exact Below.refl _ _ | refine below_of ?_ (by assumption)))⟩
 ·have HE:=Lib.hid (show piece s[k] (s.data.toList.drop (k+1))=_ from piece_one (s:=s.data.toList) hk (.inl HP.out))
  by_cases h32:s[k]=32
  ·have:=HP.out;rw [h32] at this;cases this
  ·by_cases h9:s[k]=9
   ·have:=HP.out;rw [h9] at this;cases this
   ·have q1:((s[k].toNat:Int) == 32)=false:=by simp [← UInt8.toNat_inj] at h32 ⊢;omega
    have q2:((s[k].toNat:Int) == 9)=false:=by simp [← UInt8.toNat_inj] at h9 ⊢;omega
    clear h32 h9
    go_enter Tryd.func18,Tryd.ntmps18
    go_wp2_with (first | (go_at_call 33;refine (plain_of_ref _ _ HP.out _).mono ?_;rintro e w1 ⟨rfl,rfl⟩) | (go_at_call 34;refine (pair_ref _ _).mono ?_;rintro e w1 ⟨rfl,hb1⟩))
    go_ret
    exact ⟨by rw [HE.out];rfl,(Below.refl _ _).alloc (Nat.le_refl _) _⟩
end Go.Proofs.YtmpiobfdchlikaaDoor
end
section
set_option synthInstance.maxSize 4000
namespace Nun
open Go Go.RowKit
def natCells (l:List Nat):List Value:=l.map fun (n:Nat)=>.int .i64 (n:Int)
theorem natCells_snoc (l:List Nat) (n:Nat):natCells (l++[n])=natCells l++[.int .i64 n]:=by simp [natCells]
def OwnN (B:Nat) (e:TypeId) (v:Value) (l:List Nat) (w:World):Prop:=w.ownsRow B e 1 v l.length (natCells l)
theorem OwnN.kept {B:Nat} {e:TypeId} {v:Value} {l:List Nat} {w w':World} (h:OwnN B e v l w) (k:Below w.heap.size w w'):OwnN B e v l w' :=
 World.ownsRow.kept (row:=none) h ⟨k.os,k.tape,k.output,k.size,fun i hi _=>k.block i hi⟩ (by cases v.ownBlock<;>simp)
theorem OwnN.made {B:Nat} {e:TypeId} (w:World) (hB:B≤w.heap.size) (cap:Nat) (cs:Array Value) (hc:cs.size=cap) (hm:cap≤maxLen):OwnN B e (.slice (some ⟨w.heap.size,0,none⟩) 0 cap) [] (w.alloc (.cells cs e)) :=
 World.ownsRow_made (size:=1) w cs cap hB hm (by omega)
theorem pushn {P:Program} {ops:Array Oper} {rest:List Oper} {o:Oper} {a:Act} {Q:Exit→Act→World→Prop} (hgd:o.guard=none) (s x:Operand) (t:TypeId)
 (ho:o.op=.call { callee:=.builtin .append,args:=#[s,x],argTypes:=#[t,t] })
 (e:TypeId) (ht:P.underlying t=some (.slice e)) (hi:(P.info? e).map (fun i=>(i.zero,i.size,i.bytes))=some (some (.int .i64 0),1,8))
 (B:Nat) (w:World) (v:Value) (l:List Nat) (hs:a.eval s=v) (hown:OwnN B e v l w) (m:Int) (c:Nat) (hm:m=c)
 (hx:a.eval x=.slice (some ⟨w.heap.size,0,none⟩) 1 1) (hmax:(l.length+1) * 8≤140737488355328) (hB:B≤w.heap.size)
 (h:∀ v' w',OwnN B e v' (l++[c]) w'→w.grownBy w' v.ownBlock→Below B w w'→w.heap.size<w'.heap.size→wpList P ops Q rest (a.put o.dst v') w') :
 wpList P ops Q (o::rest) a (w.alloc (.cells #[.int .i64 m] e)):=by
 subst hm
 exact push1 hgd s x t ho e (.int .i64 0) 1 8 ht hi rfl (by decide) B w v _ _ hs hown [.int .i64 c] rfl (by simp [Value.oneCell']) hx (by omega) (by omega) hB
  fun g cap w' h1 h2 h3 h4 h5=>h _ w' (by unfold OwnN;rw [natCells_snoc,List.length_append];exact h2) h3 h4 h5
def bits8 (c:UInt8):List Nat:=[c.toNat / 128 % 2,c.toNat / 64 % 2,c.toNat / 32 % 2,c.toNat / 16 % 2,c.toNat / 8 % 2,c.toNat / 4 % 2,c.toNat / 2 % 2,c.toNat % 2]
def bitsL (l:List UInt8):List Nat:=l.flatMap bits8
theorem bitsL_snoc (l:List UInt8) (c:UInt8):bitsL (l++[c])=bitsL l++bits8 c:=by unfold bitsL;rw [List.flatMap_append];simp
theorem bitsL_len (l:List UInt8):(bitsL l).length=8 * l.length:=by
 induction l with
 | nil=>rfl
 | cons c l ih=>show (bits8 c++bitsL l).length=_;rw [List.length_append,ih];simp [bits8];omega
def RowN (v:Value) (l:List Nat) (w:World):Prop:=∃ g o cap,v=.slice (some ⟨g,o,none⟩) l.length cap∧l.length≤cap∧g<w.heap.size∧∀ (j x:Nat),l[j]? =some x→w.cell? ⟨g,o+j,none⟩=some (.int .i64 x)
theorem RowN.kept {v:Value} {l:List Nat} {w w':World} (h:RowN v l w) (k:Below w.heap.size w w'):RowN v l w':=by
 obtain ⟨g,o,cap,rfl,hc,hg,hr⟩:=h
 exact ⟨g,o,cap,rfl,hc,Nat.lt_of_lt_of_le hg k.size,fun j x hj=>(k.cell (p:=⟨g,o+j,none⟩) hg).trans (hr j x hj)⟩
def six (l:List Nat):Nat→Nat
 | 0=>0
 | i+1=>2 * six l i+(l[i]?).getD 0
theorem bits8_snoc (c:UInt8) (j:Nat) (h:j<8):(bits8 c).take (j+1)=(bits8 c).take j++[(bits8 c).getD j 0]:=by
 rw [List.take_succ_eq_append_getElem (by simpa [bits8] using h)];simp [List.getD,List.getElem?_eq_getElem (l:=bits8 c) (i:=j) (by simpa [bits8] using h)]
end Nun
namespace Go.Proofs.YtmpiobfdchlikaaDoor
open Go.RowKit Nun
theorem infoInt:(Tryd.prog.info? 3).map (fun i=>(i.zero,i.size,i.bytes))=some (some (.int .i64 0),1,8):=by kernel_rfl
set_option maxHeartbeats 2000000 in
theorem bits_ref (s:ByteArray) (w:World) (hs:s.size≤1000000):Calls Tryd.prog 19 #[.string s] w fun e w'=>∃ v,e=.returned v∧OwnN w.heap.size 3 v (bitsL s.data.toList) w'∧Below w.heap.size w w':=by
 have hlen:s.data.toList.length=s.size:=rfl
 have HL:=Lib.hid hlen;clear hlen
 go_enter Tryd.func19,Tryd.ntmps19
 go_wp2
 go_loopw [3,4,5] (fun v i _ wr=>∃ (k:Nat),k≤s.size∧i=.int .i64 k∧OwnN w.heap.size 3 v (bitsL (s.data.toList.take k)) wr∧Below w.heap.size w wr)
  (fun _ i _ _=>s.size - (intOf i).toNat)
 case atStart=>exact ⟨0,Nat.zero_le _,rfl,OwnN.made w (Nat.le_refl _) _ _ rfl (by decide),(Below.refl _ _).alloc (Nat.le_refl _) _⟩
 case round =>
  obtain ⟨k,hk,rfl,hown,hbel⟩:=hrel
  have hbl:(bitsL (s.data.toList.take k)).length≤8 * k:=by rw [bitsL_len,List.length_take];omega
  by_cases hlt:k<s.size
  ·have hst:bitsL (s.data.toList.take (k+1))=bitsL (s.data.toList.take k)++bits8 s[k]:=by
    rw [take_snoc _ _ (by rw [HL.out];exact hlt),bitsL_snoc];rfl
   generalize bitsL (s.data.toList.take k)=acc at *
   have HS:=Lib.hid hst;clear hst
   have hc8:=s[k].toNat_lt
   go_wp2
   go_loopw [3,5] (fun v q wr1=>∃ (j:Nat),j≤8∧q=.int .i64 ((128 / 2 ^ j:Nat):Int)∧OwnN w.heap.size 3 v (acc++(bits8 s[k]).take j) wr1∧Below w.heap.size w wr1)
    (fun _ q _=>(intOf q).toNat)
   case atStart=>exact ⟨0,by omega,rfl,by simpa using hown,hbel⟩
   case round =>
    clear hown hbel
    obtain ⟨j,hj,rfl,hown,hbel⟩:=hrel
    by_cases hj8:j<8
    ·obtain ⟨b,hb⟩:∃ b,(bits8 s[k]).getD j 0=b:=⟨_,rfl⟩
     have hsn:=bits8_snoc s[k] j hj8
     rw [hb] at hsn
     have hsn':=Lib.hid (show acc++(bits8 s[k]).take (j+1)=acc++(bits8 s[k]).take j++[b] by rw [hsn,List.append_assoc]);clear hsn
     have hl:((acc++(bits8 s[k]).take j).length+1) * 8≤140737488355328:=by
      rw [List.length_append,List.length_take];omega
     have HB:=Lib.hid hb;clear hb
     have hl':=Lib.hid hl;clear hl
     obtain rfl | rfl | rfl | rfl | rfl | rfl | rfl | rfl:j=0∨j=1∨j=2∨j=3∨j=4∨j=5∨j=6∨j=7:=by omega
     all_goals
      go_wp2_with (at_builtin;refine pushn (by rfl) _ _ _ (by rfl) 3 Tryd.underlying50 infoInt w.heap.size wr _ _ (by rfl) hown _ b (by rw [← HB.out];simp [bits8]) (by rfl) hl'.out hbel.size ?_;intro v1 w1 hown1 hgr hb1 hsz1)
      go_roundw
      case rel =>
       have hrow:=hown1
       rw [← hsn'.out] at hrow
       first | exact ⟨1,by omega,by go_num,hrow,hbel.trans hb1⟩ | exact ⟨2,by omega,by go_num,hrow,hbel.trans hb1⟩ | exact ⟨3,by omega,by go_num,hrow,hbel.trans hb1⟩ | exact ⟨4,by omega,by go_num,hrow,hbel.trans hb1⟩ | exact ⟨5,by omega,by go_num,hrow,hbel.trans hb1⟩ | exact ⟨6,by omega,by go_num,hrow,hbel.trans hb1⟩ | exact ⟨7,by omega,by go_num,hrow,hbel.trans hb1⟩ | exact ⟨8,by omega,by go_num,hrow,hbel.trans hb1⟩
      case measure=>simp [intOf]
    ·obtain rfl:j=8:=by omega
     have he:acc++(bits8 s[k]).take 8=bitsL (s.data.toList.take (k+1)):=by rw [HS.out];rfl
     rw [he] at hown
     clear he
     go_wp2
     go_roundw
     case rel=>exact ⟨k+1,by omega,by go_num,hown,hbel⟩
     case measure=>simp [intOf];omega
  ·obtain rfl:k=s.size:=by omega
   rw [List.take_of_length_le (by rw [HL.out];exact Nat.le_refl _)] at hown
   go_wp2
   go_ret
   exact ⟨_,rfl,hown,hbel⟩
end Go.Proofs.YtmpiobfdchlikaaDoor
end
section
set_option synthInstance.maxSize 4000
namespace Nun
theorem six_lt (l:List Nat) (hl:∀ x∈l,x≤1) (i:Nat):six l i<2 ^ i:=by
 induction i with
 | zero=>simp [six]
 | succ i ih =>
   have:(l[i]?).getD 0≤1:=by
    rcases h:l[i]? with _ | x
    ·simp
    ·exact hl x (List.mem_of_getElem? h)
   rw [six,Nat.pow_succ];omega
theorem six_lt64 (l:List Nat) (hl:∀ x∈l,x≤1) (i:Nat) (hi:i≤6):six l i<64:=Nat.lt_of_lt_of_le (six_lt l hl i) (Nat.pow_le_pow_right (n:=2) (by decide) hi)
def digs (l:List Nat):List UInt8:=if h:0<l.length then dig (six l 6)::digs (l.drop 6) else []
termination_by l.length
decreasing_by simp;omega
theorem digs_more {l:List Nat} (h:0<l.length):digs l=dig (six l 6)::digs (l.drop 6):=by rw [digs,dif_pos h]
theorem digs_nil:digs []=[]:=by rw [digs,dif_neg (by simp)]
theorem digs_len (n:Nat):∀ l:List Nat,l.length≤n→(digs l).length≤l.length:=by
 induction n with
 | zero=>intro l h
         have:l=[]:=List.eq_nil_of_length_eq_zero (by omega)
         subst this;simp [digs_nil]
 | succ n ih =>
   intro l h
   by_cases h0:0<l.length
   ·rw [digs_more h0,List.length_cons]
    have:=ih (l.drop 6) (by rw [List.length_drop];omega)
    rw [List.length_drop] at this;omega
   ·rw [digs,dif_neg h0];simp
theorem bitsL_bits (l:List UInt8):∀ x∈bitsL l,x≤1:=by
 intro x h
 unfold bitsL at h
 obtain ⟨c,_,hc⟩:=List.mem_flatMap.1 h
 simp [bits8] at hc
 omega
def padTo4 (l:List UInt8):List UInt8:=l++List.replicate ((4 - l.length % 4) % 4) 61
theorem dig_ext:∀ i:Fin 64,((⟨digits64.toArray⟩:ByteArray).extract i.1 (i.1+1)).data.toList=[dig i.1]:=by decide +kernel
end Nun
namespace Go.Proofs.YtmpiobfdchlikaaDoor
open Go.RowKit Nun
set_option maxHeartbeats 1000000 in
theorem digits_ref (w:World):Calls Tryd.prog 35 #[] w (Same (.string ⟨digits64.toArray⟩) w):=by
 go_enter Tryd.func35,Tryd.ntmps35
 go_wp2
 go_ret
 exact ⟨rfl,rfl⟩
set_option maxHeartbeats 1000000 in
theorem digit_ref64 (g o cap n:Nat) (l:List Nat) (hn:n=l.length) (w:World) (hr:∀ (j x:Nat),l[j]? =some x→w.cell? ⟨g,o+j,none⟩=some (.int .i64 x)) (hb:∀ x∈l,x≤1) (hc:n≤1000000000) :
 Calls Tryd.prog 20 #[.slice (some ⟨g,o,none⟩) n cap] w (Same (.string ⟨#[dig (six l 6)]⟩) w):=by
 have HR:=Lib.hid hr;clear hr
 have HB:=Lib.hid hb;clear hb
 have HN:=Lib.hid hn;clear hn
 have hx:=dig_ext ⟨six l 6,six_lt64 l HB.out 6 (by decide)⟩
 have HX:=Lib.hid hx;clear hx
 go_enter Tryd.func20,Tryd.ntmps20
 go_wp2
 go_loopw [3,4] (fun m i wr=>∃ (k:Nat),k≤6∧i=.int .i64 k∧m=.int .i64 (six l k)∧wr=w)
  (fun _ i _=>6 - (intOf i).toNat)
 case atStart=>exact ⟨0,by omega,rfl,rfl,rfl⟩
 case round =>
  obtain ⟨k,hk,rfl,rfl,rfl⟩:=hrel
  have h64:=six_lt64 l HB.out k hk
  by_cases h6:k<6
  ·by_cases hkn:k<n
   ·obtain ⟨x,hx⟩:∃ x,l[k]? =some x:=⟨_,List.getElem?_eq_getElem (by rw [← HN.out];exact hkn)⟩
    have hcell:=HR.out k x hx
    have hx1:=HB.out x (List.mem_of_getElem? hx)
    have hsx:((six l (k+1):Nat):Int)=2 * six l k+x:=by rw [six,hx];simp
    have HS:=Lib.hid hsx;clear hsx hx
    go_wp2
    go_roundw
    case rel=>exact ⟨k+1,by omega,by go_num,vi (by rw [HS.out]),trivial⟩
    case measure=>simp [intOf];omega
   ·have hsx:((six l (k+1):Nat):Int)=2 * six l k:=by rw [six,List.getElem?_eq_none (by rw [← HN.out];omega)];simp
    have HS:=Lib.hid hsx;clear hsx
    go_wp2
    go_roundw
    case rel=>exact ⟨k+1,by omega,by go_num,vi (by rw [HS.out]),trivial⟩
    case measure=>simp [intOf];omega
  ·obtain rfl:k=6:=by omega
   have hds:(ByteArray.mk digits64.toArray).size=64:=rfl
   go_wp2_with (go_at_call 35;refine (digits_ref _).mono ?_;rintro e w' ⟨rfl,rfl⟩)
   go_ret
   exact ⟨r1 (vS HX.out),rfl⟩
theorem own_row {B:Nat} {e:TypeId} {v:Value} {l:List Nat} {w:World} (h:OwnN B e v l w):(v=.slice none 0 0∧l=[])∨∃ g cap,v=.slice (some ⟨g,0,none⟩) l.length cap∧l.length≤cap∧∀ (j x:Nat),l[j]? =some x→w.cell? ⟨g,0+j,none⟩=some (.int .i64 x):=by
 rcases h.2 with ⟨hv,h0⟩ | ⟨g,cap,cur,rfl,hg,hh,hc,_⟩
 ·exact .inl ⟨hv,List.eq_nil_of_length_eq_zero h0⟩
 ·refine .inr ⟨g,cap,rfl,hc,fun j x hj=>?_⟩
  have:=World.ownsRow.cells h (g:=g) rfl j (.int .i64 x) (by simp [natCells,hj])
  have ha:(⟨g,0,none⟩:Addr).add j=⟨g,0+j,none⟩:=by unfold Addr.add;split<;>simp_all
  rw [ha] at this;exact this
theorem add_at (g o k:Nat):(⟨g,o,none⟩:Addr).add k=⟨g,o+k,none⟩:=by unfold Addr.add;split<;>simp_all
set_option maxHeartbeats 2000000 in
theorem encode_ref (s:ByteArray) (w:World) (hs:s.size≤1000000):Calls Tryd.prog 10 #[.string s] w (Ret (.string ⟨(padTo4 (digs (bitsL s.data.toList))).toArray⟩) w):=by
 have hlen:(bitsL s.data.toList).length=8 * s.size:=bitsL_len _
 have hbit:=bitsL_bits s.data.toList
 have hds:=digs_len (8 * s.size) (bitsL s.data.toList) (by omega)
 have hbits:=bits_ref s w hs
 generalize bitsL s.data.toList=L at *
 have HBI:=Lib.hid hbits;have HB:=Lib.hid hbit;clear hbits hbit
 go_enter Tryd.func10,Tryd.ntmps10
 go_wp2_with (go_at_call 19;refine HBI.out.mono ?_;rintro e w1 ⟨v,rfl,hown,hb1⟩)
 obtain ⟨a0,n0,cap0,rfl,hn0,hc0,hr0⟩:∃ a0 n0 cap0,v=.slice a0 n0 cap0∧n0=L.length∧n0≤cap0∧(n0=0∨∃ g o,a0=some ⟨g,o,none⟩∧∀ (j x:Nat),L[j]? =some x→w1.cell? ⟨g,o+j,none⟩=some (.int .i64 x)):=by
  rcases own_row hown with ⟨rfl,rfl⟩ | ⟨g,cap,rfl,hc,hr⟩
  ·exact ⟨_,_,_,rfl,rfl,Nat.le_refl _,.inl rfl⟩
  ·exact ⟨_,_,_,rfl,rfl,hc,.inr ⟨g,0,rfl,hr⟩⟩
 clear hown
 have HR0:=Lib.hid hr0;clear hr0
 have hn8:n0≤8000000:=by omega
 have HN0:=Lib.hid hn0;clear hn0 hlen
 go_loopw [3,4] (fun v t wr=>∃ (M:List Nat) (acc:List UInt8) (a:Option Addr) (n cap:Nat),v=.slice a n cap∧t=.string ⟨acc.toArray⟩∧wr=w1∧n=M.length∧n≤cap∧acc.length+n≤8000000∧Hid (∀ x∈M,x≤1)∧Hid (digs L=acc++digs M)∧Hid (n=0∨∃ g o,a=some ⟨g,o,none⟩∧∀ (j x:Nat),M[j]? =some x→w1.cell? ⟨g,o+j,none⟩=some (.int .i64 x)))
  (fun v _ _=>match v with | .slice _ n _=>n | _=>0)
 case atStart=>exact ⟨L,[],a0,n0,cap0,rfl,rfl,rfl,HN0.out,hc0,by simpa using hn8,HB,Lib.hid rfl,HR0⟩
 case round =>
  obtain ⟨M,acc,a,n,cap,rfl,rfl,rfl,hn,hcap,hn8,HM,hd,hr⟩:=hrel
  by_cases hlt:0<n
  ·rcases hr.out with h | ⟨g,o,rfl,hcell⟩
   ·omega
   have hmore:=digs_more (l:=M) (by omega)
   have hmin:min 6 ((n:Nat):Int)=((min 6 n:Nat):Int):=by omega
   have hK1:1≤min 6 n:=by omega
   have hK2:min 6 n≤n:=by omega
   have hK3:min 6 n≤6:=by omega
   have hKc:min 6 n=6∨min 6 n=n:=by omega
   have hM:=Lib.hid hn;clear hn
   generalize min 6 n=K at *
   have hmore':=Lib.hid hmore;clear hmore hr
   have hcell':=Lib.hid hcell;clear hcell
   have hadd:=add_at g o K
   have hsz1:(ByteArray.mk acc.toArray).size=acc.length:=rfl
   have hsz2:(ByteArray.mk #[dig (six M 6)]).size=1:=rfl
   by_cases hcK:cap=K
   ·subst hcK
    go_wp2_with (go_at_call 20;refine (digit_ref64 g o _ n M hM.out _ hcell'.out HM.out (by omega)).mono ?_;rintro e w' ⟨rfl,rfl⟩)
    go_roundw
    case rel =>
     refine ⟨M.drop 6,acc++[dig (six M 6)],_,_,_,rfl,vS (by simp [ByteArray.toList_data_append]),trivial,?_,by omega,?_,Lib.hid (fun x hx=>HM.out x (List.mem_of_mem_drop hx)),Lib.hid (by rw [hd.out,hmore'.out];simp),Lib.hid (.inl (by omega))⟩
     ·rw [List.length_drop,← hM.out];omega
     ·simp;omega
    case measure=>simp;omega
   ·go_wp2_with (go_at_call 20;refine (digit_ref64 g o _ n M hM.out _ hcell'.out HM.out (by omega)).mono ?_;rintro e w' ⟨rfl,rfl⟩)
    go_roundw
    case rel =>
     refine ⟨M.drop 6,acc++[dig (six M 6)],_,_,_,rfl,vS (by simp [ByteArray.toList_data_append]),trivial,?_,by omega,?_,Lib.hid (fun x hx=>HM.out x (List.mem_of_mem_drop hx)),Lib.hid (by rw [hd.out,hmore'.out];simp),Lib.hid ?_⟩
     ·rw [List.length_drop,← hM.out];omega
     ·simp;omega
     ·rcases hKc with h6 | hKn
      ·refine .inr ⟨g,o+K,by simp [hadd],fun j x hj=>?_⟩
       rw [List.getElem?_drop] at hj
       have:=hcell'.out _ _ hj
       rw [← this,h6];congr 2;omega
      ·exact .inl (by omega)
    case measure=>simp;omega
  ·have hM0:M=[]:=List.eq_nil_of_length_eq_zero (by omega)
   have hD:digs L=acc:=by rw [hd.out,hM0,digs_nil];simp
   have HD:=Lib.hid hD;clear hD
   have hpad:padTo4 (digs L)=acc++List.replicate ((4 - acc.length % 4) % 4) 61:=by rw [HD.out];rfl
   have HP:=Lib.hid hpad;clear hpad
   go_wp2
   go_loopw [4] (fun t wr1=>∃ (i:Nat) (u:ByteArray),i≤(4 - acc.length % 4) % 4∧t=.string u∧u.size=acc.length+i∧Hid (u.data.toList=acc++List.replicate i 61)∧wr1=wr)
    (fun t _=>match t with | .string b=>acc.length+4 - b.size | _=>0)
   case atStart=>exact ⟨0,_,by omega,rfl,rfl,Lib.hid (by simp),rfl⟩
   case round =>
    obtain ⟨i,u,hi,rfl,hu,hul,rfl⟩:=hrel
    by_cases hip:i<(4 - acc.length % 4) % 4
    ·have hne:¬ ((acc.length:Int)+i) % 4=0:=by omega
     go_wp2
     go_roundw
     case rel=>exact ⟨i+1,_,by omega,rfl,by rw [ByteArray.size_append,hu];rfl,Lib.hid (by rw [ByteArray.toList_data_append,hul.out,List.replicate_succ',List.append_assoc]),trivial⟩
     case measure =>
      have h1:(ByteArray.mk #[61]).size=1:=rfl
      simp only [ByteArray.size_append,h1];omega
    ·have hne:((acc.length:Int)+i) % 4=0:=by omega
     have hip':i=(4 - acc.length % 4) % 4:=by omega
     have hfin:u.data.toList=padTo4 (digs L):=by rw [hul.out,HP.out,hip']
     have HF:=Lib.hid hfin;clear hfin hip'
     go_wp2
     go_ret
     exact ⟨r1 (vS HF.out),hb1⟩
end Go.Proofs.YtmpiobfdchlikaaDoor
end
section
namespace Nun
theorem bits_hi2:∀ a:UInt8,32 * (a.toNat / 128 % 2)+16 * (a.toNat / 64 % 2)+8 * (a.toNat / 32 % 2)+4 * (a.toNat / 16 % 2)+2 * (a.toNat / 8 % 2)+a.toNat / 4 % 2=a.toNat / 4:=by decide +kernel
theorem bits_lo2:∀ a:UInt8,2 * (a.toNat / 2 % 2)+a.toNat % 2=a.toNat % 4:=by decide +kernel
theorem bits_hi4:∀ a:UInt8,8 * (a.toNat / 128 % 2)+4 * (a.toNat / 64 % 2)+2 * (a.toNat / 32 % 2)+a.toNat / 16 % 2=a.toNat / 16:=by decide +kernel
theorem bits_lo4:∀ a:UInt8,8 * (a.toNat / 8 % 2)+4 * (a.toNat / 4 % 2)+2 * (a.toNat / 2 % 2)+a.toNat % 2=a.toNat % 16:=by decide +kernel
theorem bits_hi6:∀ a:UInt8,2 * (a.toNat / 128 % 2)+a.toNat / 64 % 2=a.toNat / 64:=by decide +kernel
theorem bits_lo6:∀ a:UInt8,32 * (a.toNat / 32 % 2)+16 * (a.toNat / 16 % 2)+8 * (a.toNat / 8 % 2)+4 * (a.toNat / 4 % 2)+2 * (a.toNat / 2 % 2)+a.toNat % 2=a.toNat % 64:=by decide +kernel
theorem bitsL_cons (c:UInt8) (l:List UInt8):bitsL (c::l)=bits8 c++bitsL l:=rfl
theorem num3 (a b c:UInt8) (l:List UInt8):num (a::b::c::l) 3=(a.toNat * 256+b.toNat) * 256+c.toNat:=by simp [num]
theorem num2 (a b:UInt8):num [a,b] 3=(a.toNat * 256+b.toNat) * 256:=by simp [num]
theorem num1 (a:UInt8):num [a] 3=a.toNat * 256 * 256:=by simp [num]
theorem digs_six (x0 x1 x2 x3 x4 x5:Nat) (l:List Nat):digs (x0::x1::x2::x3::x4::x5::l)=dig (32 * x0+16 * x1+8 * x2+4 * x3+2 * x4+x5)::digs l:=by
 rw [digs_more (by simp)]
 have:six (x0::x1::x2::x3::x4::x5::l) 6=32 * x0+16 * x1+8 * x2+4 * x3+2 * x4+x5:=by simp [six];omega
 rw [this];rfl
theorem digs_group (a b c:UInt8) (l:List UInt8):digs (bitsL (a::b::c::l))=quad (a::b::c::l)++digs (bitsL l):=by
 have ha:=a.toNat_lt;have hb:=b.toNat_lt;have hc:=c.toNat_lt
 rw [bitsL_cons,bitsL_cons,bitsL_cons]
 unfold bits8
 simp only [List.cons_append,List.nil_append]
 rw [digs_six,digs_six,digs_six,digs_six]
 unfold quad
 rw [if_neg (by simp),if_neg (by simp),num3]
 have e0:((a.toNat * 256+b.toNat) * 256+c.toNat) / 262144 % 64=a.toNat / 4:=by omega
 have e1:((a.toNat * 256+b.toNat) * 256+c.toNat) / 4096 % 64=16 * (a.toNat % 4)+b.toNat / 16:=by omega
 have e2:((a.toNat * 256+b.toNat) * 256+c.toNat) / 64 % 64=4 * (b.toNat % 16)+c.toNat / 64:=by omega
 have e3:((a.toNat * 256+b.toNat) * 256+c.toNat) % 64=c.toNat % 64:=by omega
 rw [e0,e1,e2,e3]
 have h0:=bits_hi2 a;have h1:=bits_lo2 a;have h2:=bits_hi4 b;have h3:=bits_lo4 b;have h4:=bits_hi6 c;have h5:=bits_lo6 c
 simp only [List.cons_append,List.nil_append,List.cons.injEq]
 refine ⟨by congr 1,by congr 1;omega,by congr 1;omega,by congr 1,trivial⟩
theorem digs_few (l:List Nat) (h:0<l.length) (h6:l.length≤6):digs l=[dig (six l 6)]:=by
 rw [digs_more h,List.drop_of_length_le h6,digs_nil]
theorem padTo4_app (x y:List UInt8) (h:x.length=4):padTo4 (x++y)=x++padTo4 y:=by
 unfold padTo4;rw [List.length_append,h,show (4+y.length) % 4=y.length % 4 by omega,List.append_assoc]
theorem tail1 (a:UInt8):padTo4 (digs (bitsL [a]))=quad [a]:=by
 have ha:=a.toNat_lt
 have h0:=bits_hi2 a;have h1:=bits_lo2 a
 show padTo4 (digs (bits8 a))=_
 unfold bits8
 rw [digs_six,digs_few _ (by simp) (by simp)]
 have e:six [a.toNat / 2 % 2,a.toNat % 2] 6=16 * (a.toNat % 4):=by simp [six];omega
 rw [e,h0]
 unfold quad
 rw [if_pos (by simp),if_pos (by simp),num1]
 have e0:a.toNat * 256 * 256 / 262144 % 64=a.toNat / 4:=by omega
 have e1:a.toNat * 256 * 256 / 4096 % 64=16 * (a.toNat % 4):=by omega
 rw [e0,e1];rfl
theorem tail2 (a b:UInt8):padTo4 (digs (bitsL [a,b]))=quad [a,b]:=by
 have ha:=a.toNat_lt;have hb:=b.toNat_lt
 have h0:=bits_hi2 a;have h1:=bits_lo2 a;have h2:=bits_hi4 b;have h3:=bits_lo4 b
 show padTo4 (digs (bits8 a++bits8 b))=_
 unfold bits8
 simp only [List.cons_append,List.nil_append]
 rw [digs_six,digs_six,digs_few _ (by simp) (by simp)]
 have e:six [b.toNat / 8 % 2,b.toNat / 4 % 2,b.toNat / 2 % 2,b.toNat % 2] 6=4 * (b.toNat % 16):=by simp [six];omega
 rw [e,h0]
 unfold quad
 rw [if_neg (by simp),if_pos (by simp),num2]
 have e0:(a.toNat * 256+b.toNat) * 256 / 262144 % 64=a.toNat / 4:=by omega
 have e1:(a.toNat * 256+b.toNat) * 256 / 4096 % 64=16 * (a.toNat % 4)+b.toNat / 16:=by omega
 have e2:(a.toNat * 256+b.toNat) * 256 / 64 % 64=4 * (b.toNat % 16):=by omega
 have f1:32 * (a.toNat / 2 % 2)+16 * (a.toNat % 2)+8 * (b.toNat / 128 % 2)+4 * (b.toNat / 64 % 2)+2 * (b.toNat / 32 % 2)+b.toNat / 16 % 2=16 * (a.toNat % 4)+b.toNat / 16:=by omega
 rw [e0,e1,e2,f1];rfl
theorem enc_law (n:Nat):∀ l:List UInt8,l.length≤n→padTo4 (digs (bitsL l))=enc64 l:=by
 induction n with
 | zero =>
   intro l h
   have:l=[]:=List.eq_nil_of_length_eq_zero (by omega)
   subst this
   show padTo4 (digs [])=_
   rw [digs_nil];rfl
 | succ n ih =>
   intro l h
   match l,h with
   | [],_=>show padTo4 (digs [])=_;rw [digs_nil];rfl
   | [a],_=>exact tail1 a
   | [a,b],_=>exact tail2 a b
   | a::b::c::l,h =>
     rw [digs_group,padTo4_app _ _ rfl,ih l (by simp at h;omega),enc64_step (a::b::c::l) (by simp)];rfl
end Nun
end
section
set_option synthInstance.maxSize 4000
namespace Nun
def readV:Option (List UInt8)→Go.Value
 | none=>.tuple #[.string ⟨#[]⟩,.int .i64 7]
 | some l=>.tuple #[.string ⟨l.toArray⟩,.int .i64 0]
attribute [simp] readV
end Nun
namespace Go.Proofs.YtmpiobfdchlikaaDoor
open Go.RowKit Nun
end Go.Proofs.YtmpiobfdchlikaaDoor
end
section
set_option synthInstance.maxSize 4000
namespace Nun
theorem take_snoc (s:List UInt8) (k:Nat) (h:k<s.length):s.take (k+1)=s.take k++[s[k]]:=by
 rw [List.take_succ_eq_append_getElem h]
end Nun
namespace Go.Proofs.YtmpiobfdchlikaaDoor
open Go.RowKit Nun
end Go.Proofs.YtmpiobfdchlikaaDoor
end
section
namespace Nun
theorem encL_nl {s:List UInt8} {k line:Nat} (hk:k<s.length) (h:s[k]=10):encL line (s.drop k)=[13,10]++encL 0 (s.drop (k+1)):=by
 rw [List.drop_eq_getElem_cons hk,encL,if_pos h];rfl
theorem encL_wrap {s:List UInt8} {k line:Nat} (hk:k<s.length) (h:s[k]≠10) {p:List UInt8} (hp:piece s[k] (s.drop (k+1))=p) (hl:line+p.length > 75):encL line (s.drop k)=[61,13,10]++p++encL p.length (s.drop (k+1)):=by
 rw [List.drop_eq_getElem_cons hk,encL,if_neg h,hp,if_pos hl];simp
theorem encL_on {s:List UInt8} {k line:Nat} (hk:k<s.length) (h:s[k]≠10) {p:List UInt8} (hp:piece s[k] (s.drop (k+1))=p) (hl:¬ line+p.length > 75):encL line (s.drop k)=p++encL (line+p.length) (s.drop (k+1)):=by
 rw [List.drop_eq_getElem_cons hk,encL,if_neg h,hp,if_neg hl]
end Nun
namespace Go.Proofs.YtmpiobfdchlikaaDoor
open Go.RowKit Nun
theorem piece_of (s:ByteArray) (k:Nat) (p:List UInt8) (w:World) (hs:s.size≤1000000000) (hk:k<s.size) (h:piece s[k] (s.data.toList.drop (k+1))=p):Calls Tryd.prog 18 #[.string s,.int .i64 k] w (Ret (.string ⟨p.toArray⟩) w):=h ▸ piece_ref s k w hs hk
set_option maxHeartbeats 2000000 in
set_option maxRecDepth 100000 in
theorem enc_ref (s:ByteArray) (w:World) (hs:s.size≤1000000):Calls Tryd.prog 8 #[.string s] w (Ret (.string ⟨(encL 0 s.data.toList).toArray⟩) w):=by
 go_enter Tryd.func8,Tryd.ntmps8
 go_wp2
 go_loopw [3,4,5,6] (fun v l i _ wr=>∃ (k line:Nat) (acc:List UInt8),k≤s.size∧line≤75∧i=.int .i64 k∧l=.int .i64 line∧v=.string ⟨acc.toArray⟩∧acc.length≤6 * k∧Below w.heap.size w wr∧Hid (encL 0 s.data.toList=acc++encL line (s.data.toList.drop k)))
  (fun _ _ i _ _=>s.size - (intOf i).toNat)
 case atStart=>exact ⟨0,0,[],Nat.zero_le _,by omega,rfl,rfl,rfl,by simp,Below.refl _ _,Lib.hid (by simp)⟩
 case round =>
  obtain ⟨k,line,acc,hk,hline,rfl,rfl,rfl,hak,hbel,hacc⟩:=hrel
  by_cases hlt:k<s.size
  ·by_cases h10:s[k]=10
   ·have HN:=Lib.hid (hacc.out.trans (congrArg (acc++·) (encL_nl (s:=s.data.toList) (line:=line) hlt h10)))
    have q1:((s[k].toNat:Int) == 10)=true:=by rw [h10];rfl
    clear h10 hacc
    go_wp2
    go_roundw
    case rel=>exact ⟨k+1,0,acc++[13,10],by omega,by omega,by go_num,rfl,vS (by simp [ByteArray.toList_data_append]),by simp;omega,hbel,Lib.hid (by rw [HN.out];simp)⟩
    case measure=>simp [intOf];omega
   ·have q1:((s[k].toNat:Int) == 10)=false:=by simp [← UInt8.toNat_inj] at h10 ⊢;omega
    have hp2:=piece_len s[k] (s.data.toList.drop (k+1))
    generalize hp:piece s[k] (s.data.toList.drop (k+1))=p at hp2
    obtain ⟨hp0,hp3⟩:=hp2
    have HP:=Lib.hid hp;clear hp
    by_cases hl:line+p.length > 75
    ·have HN:=Lib.hid (hacc.out.trans (congrArg (acc++·) (encL_wrap (s:=s.data.toList) (line:=line) hlt h10 HP.out hl)))
     clear h10 hacc
     have q2:(75:Int)<(line:Int)+(p.length:Int):=by omega
     go_wp2_with (go_at_call 18;refine (piece_of _ _ _ _ (by omega) hlt HP.out).mono ?_;rintro e w1 ⟨rfl,hb1⟩)
     go_roundw
     case rel=>exact ⟨k+1,p.length,acc++([61,13,10]++p),by omega,by omega,by go_num,by simp,vS (by simp [ByteArray.toList_data_append]),by simp;omega,hbel.trans (hb1.mono hbel.size),Lib.hid (by rw [HN.out];simp)⟩
     case measure=>simp [intOf];omega
    ·have HN:=Lib.hid (hacc.out.trans (congrArg (acc++·) (encL_on (s:=s.data.toList) (line:=line) hlt h10 HP.out hl)))
     clear h10 hacc
     have q2:¬ (75:Int)<(line:Int)+(p.length:Int):=by omega
     go_wp2_with (go_at_call 18;refine (piece_of _ _ _ _ (by omega) hlt HP.out).mono ?_;rintro e w1 ⟨rfl,hb1⟩)
     go_roundw
     case rel=>exact ⟨k+1,line+p.length,acc++p,by omega,by omega,by go_num,by simp,vS (by simp [ByteArray.toList_data_append]),by simp;omega,hbel.trans (hb1.mono hbel.size),Lib.hid (by rw [HN.out];simp)⟩
     case measure=>simp [intOf];omega
  ·obtain rfl:k=s.size:=by omega
   go_wp2
   go_ret
   exact ⟨r1 (vs (by rw [hacc.out,show s.data.toList.drop s.size=[] from List.drop_of_length_le (Nat.le_refl _)];simp [encL])),hbel⟩
end Go.Proofs.YtmpiobfdchlikaaDoor
end
section
namespace Nun
abbrev Short:={ p:ByteArray // p.size≤3 }
def Short.bytes (p:Short):List UInt8:=p.1.data.toList
end Nun
namespace Go.Proofs.YtmpiobfdchlikaaDoor
open Go.RowKit Nun
attribute [local go_sem] Oper.semAt_some
end Go.Proofs.YtmpiobfdchlikaaDoor
end
section
namespace Go.Proofs.YtmpiobfdchlikaaDoor
open Go.RowKit Nun
attribute [local go_sem] Oper.semAt_some
theorem Bd.own {β:Type} (B b:Nat) (f:β→List UInt8):Own (fun (s:β) W=>Bd B b (f s) W):=by
 intro s W W' row h hg hr
 have kk:∀ p,Lib.BuilderAtF 118 5 B b p (Lib.byteCells (f s)) W→Lib.BuilderAtF 118 5 B b p (Lib.byteCells (f s)) W':=by
  rintro p ⟨hB,v,hb,hown,hne⟩
  have ne:∀ g o,W.heap[g]? =some o→o.isCells=true→some g≠row:=by
   intro g o hgo hoc e
   obtain ⟨o',ho',hc'⟩:=hr g e.symm
   rw [hgo] at ho';cases ho';rw [hoc] at hc';cases hc'
  refine ⟨hB,v,(hg.block b (Array.getElem?_eq_some_iff.1 hb).1 (ne b _ hb rfl)).trans hb,hown.kept hg ?_,hne⟩
  rcases hv:v.ownBlock with _ | g
  ·exact .inl rfl
  ·obtain ⟨c,fz,hgg⟩:=Lib.ownsRowF_kind hown g hv
   exact .inr (ne g _ hgg rfl)
 rcases h with h | h
 ·exact .inl (kk _ h)
 ·exact .inr (kk _ h)
theorem Bd.set {B b k:Nat} {l:List UInt8} {w:World} {t:TypeId} {v:Value} (v':Value) (h:Bd B b l w) (hbx:Boxed w k t v) (hkb:k≠b) (ht:t≠5):Bd B b l (w.setCell ⟨k,0,none⟩ v'):=by
 have kk:∀ p,Lib.BuilderAtF 118 5 B b p (Lib.byteCells l) w→Lib.BuilderAtF 118 5 B b p (Lib.byteCells l) (w.setCell ⟨k,0,none⟩ v'):=by
  rintro p ⟨hB,v,hb,hown,hne⟩
  exact ⟨hB,v,(Below.heap_setCell _ _ _ _ (fun e=>hkb e.symm)).trans hb,hown.kept (row:=some k) ⟨rfl,rfl,rfl,by simp [World.setCell],fun i _ hi=>Below.heap_setCell _ _ _ _ (fun e=>hi (by simp [e]))⟩ (.inr (Lib.ownBlock_neF hown hbx ht)),hne⟩
 rcases h with h | h
 ·exact .inl (kk _ h)
 ·exact .inr (kk _ h)
theorem Bd.isCells {B b:Nat} {l:List UInt8} {w:World} (h:Bd B b l w):∃ o:Obj,w.heap[b]? =some o∧o.isCells=true:=by
 rcases h with ⟨_,v,hb,_⟩ | ⟨_,v,hb,_⟩<;>exact ⟨_,hb,rfl⟩
end Go.Proofs.YtmpiobfdchlikaaDoor
end
section
set_option maxRecDepth 100000
namespace Nun
open Go Go.RowKit Go.Proofs Go.Proofs.YtmpiobfdchlikaaDoor
variable {lib:Callee}
def LibParse (lib:Callee):Prop:=∀ (s:Str) (p:LP) (m:Nat),s.length≤10000→letterP 4 s 0=.ok (p,m)→lib 6 [.flat (.string (S s))] [] []=some ([.agg p.cells,.flat (.int .i64 0)],false,[],[])
theorem parse_ev (H:LibParse lib) (s:Str) (p:LP) (m:Nat) (hs:s.length≤10000) (h:letterP 4 s 0=.ok (p,m)):evW code lib 6 [.flat (.string (S s))] [] []=some ([.agg p.cells,.flat (.int .i64 0)],false,[],[]):=evW_lib (by decide) (by kernel_rfl) (H s p m hs h)
def awS:Str:=[67,111,110,116,101,110,116,45,84,121,112,101,58,32,109,117,108,116,105,112,97,114,116,47,109,105,120,101,100,59,32,98,111,117,110,100,97,114,121,61,98]++[13,10,13,10]++[45,45,98]++[13,10,13,10,97,13,10]++[45,45,98,45,45]++[13,10]
def awP:LP:=.mk [([67,111,110,116,101,110,116,45,84,121,112,101],[109,117,108,116,105,112,97,114,116,47,109,105,120,101,100,59,32,98,111,117,110,100,97,114,121,61,98])] [109,117,108,116,105,112,97,114,116,47,109,105,120,101,100] [] [.mk [] [116,101,120,116,47,112,108,97,105,110] [97] []]
theorem aw_p:letterP 4 awS 0=.ok (awP,1):=by kernel_rfl
theorem awake14_ev (H:LibParse lib):evW code lib 11 [] [] []=some ([.flat (.bool true)],false,[],[]):=by
 have h:=parse_ev H awS awP 1 (by decide) aw_p
 simp only [awS,List.cons_append,List.nil_append,awP,LP.cells,lcells,fcells,List.length_cons,List.length_nil,List.append_nil,Nat.zero_add] at h
 refine evW_eq code_nunciolaw14_awake (Nat.le_of_ble_eq_true rfl) ?_
 simp (maxSteps:=999999) (disch:=first | assumption | omega) only [go_sem,simprocAttr,au,h]
theorem few14_ev (s:Str) (hs:s.length≤9223372036854775807):evW code lib 5 [.flat (.string (S s))] [] []=some ([.flat (.string (S (s.take 1200)))],false,[],[]):=by
 refine evW_eq code_nunciolaw14_few (Nat.le_of_ble_eq_true rfl) ?_
 rcases Nat.lt_or_ge 1200 s.length with h | h
 ·simp (maxSteps:=999999) (disch:=first | assumption | omega) only [go_sem,simprocAttr,au]
 ·have e:s.take 1200=s:=List.take_of_length_le h
  simp (maxSteps:=999999) (disch:=first | assumption | omega) only [go_sem,simprocAttr,au,e,List.take_length]
end Nun
end
section
namespace Nun
open Go Go.RowKit Go.Proofs Go.Proofs.YtmpiobfdchlikaaDoor
variable {lib:Callee}
mutual
def LP.wide:LP→Prop
 | .mk F ty tx ps=>F.length≤9223372036854775807∧ty.length≤9223372036854775807∧tx.length≤9223372036854775807∧ps.length≤9223372036854775807∧lwide ps
def lwide:List LP→Prop
 | []=>True
 | p::r=>p.wide∧lwide r
end
theorem lwide_mem:∀ {l:List LP} {p:LP},lwide l→p∈l→p.wide
 | q::l,p,h,hp=>by
   unfold lwide at h
   rcases List.mem_cons.1 hp with rfl | hp
   ·exact h.1
   ·exact lwide_mem h.2 hp
def lightP:Nat→LP→LP
 | 0,.mk F ty tx ps=>.mk (F.take 4) (ty.take 1200) (tx.take 1200) []
 | d+1,.mk F ty tx ps=>.mk (F.take 4) (ty.take 1200) (tx.take 1200) ((ps.take 3).map (lightP d))
theorem lcells_at:∀ {L:List LP} {k:Nat} {p:LP} {r:List LP},L.drop k=p::r→(lcells L).drop (k * 4)=p.cells++lcells r
 | q::l,0,p,r,h=>by
   simp only [List.drop_zero,List.cons.injEq] at h
   obtain ⟨rfl,rfl⟩:=h
   rfl
 | q::l,k+1,p,r,h=>by
   have hq:=LP.len q
   rw [lcells,List.drop_append,hq,List.drop_of_length_le (by omega),List.nil_append,show (k+1) * 4 - 4=k * 4 by omega]
   exact lcells_at h
 | [],k,p,r,h=>by simp at h
set_option maxHeartbeats 1000000 in
theorem light_l0 (F:List Fld) (hF:F.length≤9223372036854775807) (d:Nat) (n:Nat) (cs:List PV) (hcs:∀ m,lows m cs=true) (ty tx ty' tx':Str) :
 evLoop (evC (evW code lib) big b_nunciolaw14_light_0) [1,2,4,5,6] 3 big ⟨[(1,.flat (.int .i64 (d:Nat))),(2,.ptr 0 0),(4,.ptr 1 0),(5,.ptr 2 0),(6,.flat (.int .i64 0))],[.cell 2 0,.cell 2 3,.cell 1 0,.cell 1 3],[],[(38,[.slc F.length (fcells F),.flat (.string (S ty)),.flat (.string (S tx)),.slc n cs]),(38,zcells),(38,[.slc 0 [],.flat (.string (S ty')),.flat (.string (S tx')),.slc 0 []])]⟩
  = some (.exit 0,⟨[(1,.flat (.int .i64 (d:Nat))),(2,.ptr 0 0),(4,.ptr 1 0),(5,.ptr 2 0)],[.cell 2 0,.cell 2 3,.cell 1 0,.cell 1 3],[],[(38,[.slc F.length (fcells F),.flat (.string (S ty)),.flat (.string (S tx)),.slc n cs]),(38,zcells),(38,[.slc (F.take 4).length (fcells (F.take 4)),.flat (.string (S ty')),.flat (.string (S tx')),.slc 0 []])]⟩):=by
 have hbv:bound=4294967296:=rfl
 unfold zcells
 match F,hF with
 | [],_ =>
   simp (maxSteps:=999999) (disch:=first | assumption | omega) only [go_sem,simprocAttr,au,big_on,loop_on,kLoop_n,kLoop_e,on_nunciolaw14_light_0,hcs,fcells,List.take_nil,List.length_nil]
 | [(a1,a2)],_ =>
   simp (maxSteps:=999999) (disch:=first | assumption | omega) only [go_sem,simprocAttr,au,big_on,loop_on,kLoop_n,kLoop_e,on_nunciolaw14_light_0,hcs,fcells,List.take_nil,List.take_succ_cons,List.length_cons,List.length_nil]
 | [(a1,a2),(b1,b2)],_ =>
   simp (maxSteps:=999999) (disch:=first | assumption | omega) only [go_sem,simprocAttr,au,big_on,loop_on,kLoop_n,kLoop_e,on_nunciolaw14_light_0,hcs,fcells,List.take_nil,List.take_succ_cons,List.length_cons,List.length_nil]
 | [(a1,a2),(b1,b2),(c1,c2)],_ =>
   simp (maxSteps:=999999) (disch:=first | assumption | omega) only [go_sem,simprocAttr,au,big_on,loop_on,kLoop_n,kLoop_e,on_nunciolaw14_light_0,hcs,fcells,List.take_nil,List.take_succ_cons,List.length_cons,List.length_nil]
 | [(a1,a2),(b1,b2),(c1,c2),(e1,e2)],_ =>
   simp (maxSteps:=999999) (disch:=first | assumption | omega) only [go_sem,simprocAttr,au,big_on,loop_on,kLoop_n,kLoop_e,on_nunciolaw14_light_0,hcs,fcells,List.take_zero,List.take_succ_cons,List.length_cons,List.length_nil]
 | (a1,a2)::(b1,b2)::(c1,c2)::(e1,e2)::(g1,g2)::G,hF =>
   have hgl:=fcells_len G
   have hgw:=fun n=>fcells_low (n:=n) G
   simp only [List.length_cons] at hF
   simp (maxSteps:=999999) (disch:=first | assumption | omega) only [go_sem,simprocAttr,au,big_on,loop_on,kLoop_n,kLoop_e,on_nunciolaw14_light_0,hcs,hgl,hgw,fcells,List.take_zero,List.take_succ_cons,List.length_cons,List.length_nil]
def lightL (d:Nat) (ps:List LP):List LP:=match d with
 | 0=>[]
 | d+1=>(ps.take 3).map (lightP d)
set_option maxHeartbeats 2000000 in
theorem light_l1 (d:Nat) (hd:d≤10) (ps:List LP) (hps:ps.length≤9223372036854775807) (hrec:∀ d',d=d'+1→∀ p∈ps,evW code lib 12 [.agg p.cells,.flat (.int .i64 (d':Nat))] [] []=some ([.agg (lightP d' p).cells],false,[],[])) (n m:Nat) (cs fs:List PV) (hcs:∀ m,lows m cs=true) (hfs:∀ m,lows m fs=true) (ty tx ty' tx':Str) :
 evLoop (evC (evW code lib) big b_nunciolaw14_light_1) [1,2,4,5,7] 3 big ⟨[(1,.flat (.int .i64 (d:Nat))),(2,.ptr 0 0),(4,.ptr 1 0),(5,.ptr 2 0),(7,.flat (.int .i64 0))],[.cell 2 0,.cell 2 3,.cell 1 0,.cell 1 3],[],[(38,[.slc n cs,.flat (.string (S ty)),.flat (.string (S tx)),.slc ps.length (lcells ps)]),(38,zcells),(38,[.slc m fs,.flat (.string (S ty')),.flat (.string (S tx')),.slc 0 []])]⟩
  = some (.exit 2,⟨[(4,.ptr 1 0),(5,.ptr 2 0)],if lightL d ps=[] then [.cell 2 0,.cell 2 3,.cell 1 0,.cell 1 3] else [.cell 2 3,.cell 2 0,.cell 1 0,.cell 1 3],[],[(38,[.slc n cs,.flat (.string (S ty)),.flat (.string (S tx)),.slc ps.length (lcells ps)]),(38,zcells),(38,[.slc m fs,.flat (.string (S ty')),.flat (.string (S tx')),.slc (lightL d ps).length (lcells (lightL d ps))])]⟩):=by
 have hbv:bound=4294967296:=rfl
 have hlp:=fun n=>lcells_low (n:=n) ps
 unfold zcells
 cases d with
 | zero =>
   cases ps with
   | nil =>
     simp (maxSteps:=999999) (disch:=first | assumption | omega) only [go_sem,simprocAttr,au,on_nunciolaw14_light_1,big_on,loop_on,kLoop_n,kLoop_e,lightL,lcells,hcs,hfs,List.length_nil]
   | cons p ps =>
     simp only [List.length_cons] at hps
     generalize lcells (p::ps)=lc at *
     simp (maxSteps:=999999) (disch:=first | assumption | omega) only [go_sem,simprocAttr,au,on_nunciolaw14_light_1,big_on,loop_on,kLoop_n,kLoop_e,lightL,lcells,hcs,hfs,hlp,List.length_nil,List.length_cons]
 | succ d =>
   have hrec:=hrec d rfl
   clear hlp
   have hdd:((d:Int)+1 - 1)=(d:Int):=by omega
   match ps,hps,hrec with
   | [],hps,hrec =>
     simp (maxSteps:=999999) (disch:=first | assumption | omega) only [go_sem,simprocAttr,au,on_nunciolaw14_light_1,big_on,loop_on,kLoop_n,kLoop_e,lightL,lcells,LP.cells,List.map_cons,List.map_nil,List.take_succ_cons,List.take_nil,List.take_zero,List.append_nil,hcs,hfs,hdd,fcells_np,lcells_np,List.length_nil,List.length_cons]
   | [p],hps,hrec =>
     have q0:=hrec p (by simp)
     have z0:=fun n=>LP.low (n:=n) (lightP d p)
     have y0:=fun n=>LP.low (n:=n) p
     obtain ⟨a0,b0,c0,e0⟩:=p
     obtain ⟨l0,hl0⟩:∃ x,lightP d (.mk a0 b0 c0 e0)=x:=⟨_,rfl⟩
     rw [hl0] at q0 z0
     obtain ⟨A0,B0,C0,E0⟩:=l0
     simp only [LP.cells,lows,PV.low,Bool.and_true,Bool.true_and,Bool.and_eq_true] at z0 y0 q0
     simp (maxSteps:=999999) (disch:=first | assumption | omega) only [go_sem,simprocAttr,au,on_nunciolaw14_light_1,big_on,loop_on,kLoop_n,kLoop_e,lightL,lcells,LP.cells,List.map_cons,List.map_nil,List.take_succ_cons,List.take_nil,List.take_zero,List.append_nil,hcs,hfs,hdd,fcells_np,lcells_np,z0,y0,q0,hl0,List.length_nil,List.length_cons]
   | [p,q],hps,hrec =>
     have q0:=hrec p (by simp)
     have q1:=hrec q (by simp)
     have z0:=fun n=>LP.low (n:=n) (lightP d p)
     have y0:=fun n=>LP.low (n:=n) p
     have z1:=fun n=>LP.low (n:=n) (lightP d q)
     have y1:=fun n=>LP.low (n:=n) q
     obtain ⟨a0,b0,c0,e0⟩:=p
     obtain ⟨a1,b1,c1,e1⟩:=q
     obtain ⟨l0,hl0⟩:∃ x,lightP d (.mk a0 b0 c0 e0)=x:=⟨_,rfl⟩
     rw [hl0] at q0 z0
     obtain ⟨l1,hl1⟩:∃ x,lightP d (.mk a1 b1 c1 e1)=x:=⟨_,rfl⟩
     rw [hl1] at q1 z1
     obtain ⟨A0,B0,C0,E0⟩:=l0
     obtain ⟨A1,B1,C1,E1⟩:=l1
     simp only [LP.cells,lows,PV.low,Bool.and_true,Bool.true_and,Bool.and_eq_true] at z0 y0 q0 z1 y1 q1
     simp (maxSteps:=999999) (disch:=first | assumption | omega) only [go_sem,simprocAttr,au,on_nunciolaw14_light_1,big_on,loop_on,kLoop_n,kLoop_e,lightL,lcells,LP.cells,List.map_cons,List.map_nil,List.take_succ_cons,List.take_nil,List.take_zero,List.append_nil,hcs,hfs,hdd,fcells_np,lcells_np,z0,y0,q0,hl0,z1,y1,q1,hl1,List.length_nil,List.length_cons]
   | [p,q,r],hps,hrec =>
     have q0:=hrec p (by simp)
     have q1:=hrec q (by simp)
     have q2:=hrec r (by simp)
     have z0:=fun n=>LP.low (n:=n) (lightP d p)
     have y0:=fun n=>LP.low (n:=n) p
     have z1:=fun n=>LP.low (n:=n) (lightP d q)
     have y1:=fun n=>LP.low (n:=n) q
     have z2:=fun n=>LP.low (n:=n) (lightP d r)
     have y2:=fun n=>LP.low (n:=n) r
     obtain ⟨a0,b0,c0,e0⟩:=p
     obtain ⟨a1,b1,c1,e1⟩:=q
     obtain ⟨a2,b2,c2,e2⟩:=r
     obtain ⟨l0,hl0⟩:∃ x,lightP d (.mk a0 b0 c0 e0)=x:=⟨_,rfl⟩
     rw [hl0] at q0 z0
     obtain ⟨l1,hl1⟩:∃ x,lightP d (.mk a1 b1 c1 e1)=x:=⟨_,rfl⟩
     rw [hl1] at q1 z1
     obtain ⟨l2,hl2⟩:∃ x,lightP d (.mk a2 b2 c2 e2)=x:=⟨_,rfl⟩
     rw [hl2] at q2 z2
     obtain ⟨A0,B0,C0,E0⟩:=l0
     obtain ⟨A1,B1,C1,E1⟩:=l1
     obtain ⟨A2,B2,C2,E2⟩:=l2
     simp only [LP.cells,lows,PV.low,Bool.and_true,Bool.true_and,Bool.and_eq_true] at z0 y0 q0 z1 y1 q1 z2 y2 q2
     simp (maxSteps:=999999) (disch:=first | assumption | omega) only [go_sem,simprocAttr,au,on_nunciolaw14_light_1,big_on,loop_on,kLoop_n,kLoop_e,lightL,lcells,LP.cells,List.map_cons,List.map_nil,List.take_succ_cons,List.take_nil,List.take_zero,List.append_nil,hcs,hfs,hdd,fcells_np,lcells_np,z0,y0,q0,hl0,z1,y1,q1,hl1,z2,y2,q2,hl2,List.length_nil,List.length_cons]
   | p::q::r::s::G,hps,hrec =>
     have q0:=hrec p (by simp)
     have q1:=hrec q (by simp)
     have q2:=hrec r (by simp)
     have q3:=hrec s (by simp)
     have z0:=fun n=>LP.low (n:=n) (lightP d p)
     have y0:=fun n=>LP.low (n:=n) p
     have z1:=fun n=>LP.low (n:=n) (lightP d q)
     have y1:=fun n=>LP.low (n:=n) q
     have z2:=fun n=>LP.low (n:=n) (lightP d r)
     have y2:=fun n=>LP.low (n:=n) r
     have z3:=fun n=>LP.low (n:=n) (lightP d s)
     have y3:=fun n=>LP.low (n:=n) s
     obtain ⟨a0,b0,c0,e0⟩:=p
     obtain ⟨a1,b1,c1,e1⟩:=q
     obtain ⟨a2,b2,c2,e2⟩:=r
     obtain ⟨a3,b3,c3,e3⟩:=s
     obtain ⟨l0,hl0⟩:∃ x,lightP d (.mk a0 b0 c0 e0)=x:=⟨_,rfl⟩
     rw [hl0] at q0 z0
     obtain ⟨l1,hl1⟩:∃ x,lightP d (.mk a1 b1 c1 e1)=x:=⟨_,rfl⟩
     rw [hl1] at q1 z1
     obtain ⟨l2,hl2⟩:∃ x,lightP d (.mk a2 b2 c2 e2)=x:=⟨_,rfl⟩
     rw [hl2] at q2 z2
     obtain ⟨l3,hl3⟩:∃ x,lightP d (.mk a3 b3 c3 e3)=x:=⟨_,rfl⟩
     rw [hl3] at q3 z3
     obtain ⟨A0,B0,C0,E0⟩:=l0
     obtain ⟨A1,B1,C1,E1⟩:=l1
     obtain ⟨A2,B2,C2,E2⟩:=l2
     obtain ⟨A3,B3,C3,E3⟩:=l3
     have hgl:=lcells_len G
     have hgw:=fun n=>lcells_low (n:=n) G
     simp only [List.length_cons] at hps
     simp only [LP.cells,lows,PV.low,Bool.and_true,Bool.true_and,Bool.and_eq_true] at z0 y0 q0 z1 y1 q1 z2 y2 q2 z3 y3 q3
     simp (maxSteps:=999999) (disch:=first | assumption | omega) only [go_sem,simprocAttr,au,on_nunciolaw14_light_1,big_on,loop_on,kLoop_n,kLoop_e,lightL,lcells,LP.cells,List.map_cons,List.map_nil,List.take_succ_cons,List.take_nil,List.take_zero,List.append_nil,hcs,hfs,hdd,fcells_np,lcells_np,z0,y0,q0,hl0,z1,y1,q1,hl1,z2,y2,q2,hl2,z3,y3,q3,hl3,hgl,hgw,List.length_nil,List.length_cons]
theorem lightP_eq (d:Nat) (F:List Fld) (ty tx:Str) (ps:List LP):lightP d (.mk F ty tx ps)=.mk (F.take 4) (ty.take 1200) (tx.take 1200) (lightL d ps):=by
 cases d<;>simp only [lightP,lightL]
set_option maxHeartbeats 1000000 in
theorem light_one (d:Nat) (p:LP) (hd:d≤10) (hw:p.wide) (hrec:∀ d',d=d'+1→∀ q:LP,True→q.wide→evW code lib 12 [.agg q.cells,.flat (.int .i64 (d':Nat))] [] []=some ([.agg (lightP d' q).cells],false,[],[])):evW code lib 12 [.agg p.cells,.flat (.int .i64 (d:Nat))] [] []=some ([.agg (lightP d p).cells],false,[],[]):=by
 obtain ⟨F,ty,tx,ps⟩:=p
 unfold LP.wide at hw
 obtain ⟨w1,w2,w3,w4,w5⟩:=hw
 have f1:=few14_ev (lib:=lib) ty w2
 have f2:=few14_ev (lib:=lib) tx w3
 have hlo:=fun n=>fcells_low (n:=n) F
 have hlp:=fun n=>lcells_low (n:=n) ps
 have hlo2:=fun n=>fcells_low (n:=n) (F.take 4)
 have hlp2:=fun n=>lcells_low (n:=n) (lightL d ps)
 have l0:=light_l0 (lib:=lib) F w1 d ps.length (lcells ps) hlp ty tx (ty.take 1200) (tx.take 1200)
 have l1:=light_l1 (lib:=lib) d hd ps w4 (fun d' e q hq=>hrec d' e q trivial (lwide_mem w5 hq)) F.length (F.take 4).length (fcells F) (fcells (F.take 4)) hlo hlo2 ty tx (ty.take 1200) (tx.take 1200)
 unfold zcells at l0 l1
 rw [lightP_eq]
 simp only [LP.cells]
 clear hrec w5
 generalize lightL d ps=R at *
 generalize F.take 4=F4 at *
 refine evW_eq code_nunciolaw14_light (Nat.le_of_ble_eq_true rfl) ?_
 by_cases hR:R=[]
 ·simp only [hR,if_true] at l1 ⊢
  simp (maxSteps:=999999) (disch:=first | assumption | omega) only [go_sem,simprocAttr,au,f1,f2,l0,l1,hlo,hlp,hlo2,hlp2,lcells,fcells_np,lcells_np,List.length_nil]
 ·simp only [hR,if_false] at l1
  simp (maxSteps:=999999) (disch:=first | assumption | omega) only [go_sem,simprocAttr,au,f1,f2,l0,l1,hlo,hlp,hlo2,hlp2,fcells_np,lcells_np]
set_option maxHeartbeats 1000000 in
theorem light_ev:∀ (d:Nat) (p:LP),d≤10→p.wide→evW code lib 12 [.agg p.cells,.flat (.int .i64 (d:Nat))] [] []=some ([.agg (lightP d p).cells],false,[],[]):=by
 intro d
 induction d with
 | zero=>exact fun p hd hw=>light_one 0 p hd hw fun d' e=>by omega
 | succ d ih=>exact fun p hd hw=>light_one (d+1) p hd hw fun d' e q _ hw=>by cases e;exact ih q (by omega) hw
set_option maxHeartbeats 1000000 in
theorem mine_l0 (F:List Fld) (hF:F.length≤4) (d:Nat) (n:Nat) (cs:List PV) (hcs:∀ m,lows m cs=true) (ty tx:Str) :
 evLoop (evC (evW code lib) big b_nunciolaw14_mine_0) [1,2,4,5,6] 3 big ⟨[(1,.flat (.int .i64 (d:Nat))),(2,.ptr 0 0),(4,.ptr 1 0),(5,.ptr 2 0),(6,.flat (.int .i64 0))],[.cell 2 0,.cell 2 3,.cell 1 0,.cell 1 3],[],[(38,[.slc F.length (fcells F),.flat (.string (S ty)),.flat (.string (S tx)),.slc n cs]),(26,zcells),(26,[.slc 0 [],.flat (.string (S ty)),.flat (.string (S tx)),.slc 0 []])]⟩
  = some (.exit 0,⟨[(1,.flat (.int .i64 (d:Nat))),(2,.ptr 0 0),(4,.ptr 1 0),(5,.ptr 2 0)],[.cell 2 0,.cell 2 3,.cell 1 0,.cell 1 3],[],[(38,[.slc F.length (fcells F),.flat (.string (S ty)),.flat (.string (S tx)),.slc n cs]),(26,zcells),(26,[.slc F.length (fcells F),.flat (.string (S ty)),.flat (.string (S tx)),.slc 0 []])]⟩):=by
 have hbv:bound=4294967296:=rfl
 unfold zcells
 match F,hF with
 | [],_ =>
   simp (maxSteps:=999999) (disch:=first | assumption | omega) only [go_sem,simprocAttr,au,big_on,loop_on,kLoop_n,kLoop_e,on_nunciolaw14_mine_0,hcs,fcells,List.length_cons,List.length_nil]
 | [(a1,a2)],_ =>
   simp (maxSteps:=999999) (disch:=first | assumption | omega) only [go_sem,simprocAttr,au,big_on,loop_on,kLoop_n,kLoop_e,on_nunciolaw14_mine_0,hcs,fcells,List.length_cons,List.length_nil]
 | [(a1,a2),(b1,b2)],_ =>
   simp (maxSteps:=999999) (disch:=first | assumption | omega) only [go_sem,simprocAttr,au,big_on,loop_on,kLoop_n,kLoop_e,on_nunciolaw14_mine_0,hcs,fcells,List.length_cons,List.length_nil]
 | [(a1,a2),(b1,b2),(c1,c2)],_ =>
   simp (maxSteps:=999999) (disch:=first | assumption | omega) only [go_sem,simprocAttr,au,big_on,loop_on,kLoop_n,kLoop_e,on_nunciolaw14_mine_0,hcs,fcells,List.length_cons,List.length_nil]
 | [(a1,a2),(b1,b2),(c1,c2),(e1,e2)],_ =>
   simp (maxSteps:=999999) (disch:=first | assumption | omega) only [go_sem,simprocAttr,au,big_on,loop_on,kLoop_n,kLoop_e,on_nunciolaw14_mine_0,hcs,fcells,List.length_cons,List.length_nil]
 | _::_::_::_::_::_,h=>simp at h
set_option maxHeartbeats 2000000 in
theorem mine_l1 (d:Nat) (hd:d≤10) (ps:List LP) (hps:ps.length≤3) (h0:d=0→ps=[]) (hrec:∀ d',d=d'+1→∀ p∈ps,evW code lib 14 [.agg p.cells,.flat (.int .i64 (d':Nat))] [] []=some ([.agg p.cells],false,[],[])) (n m:Nat) (cs fs:List PV) (hcs:∀ m,lows m cs=true) (hfs:∀ m,lows m fs=true) (ty tx:Str) :
 evLoop (evC (evW code lib) big b_nunciolaw14_mine_1) [1,2,4,5,7] 3 big ⟨[(1,.flat (.int .i64 (d:Nat))),(2,.ptr 0 0),(4,.ptr 1 0),(5,.ptr 2 0),(7,.flat (.int .i64 0))],[.cell 2 0,.cell 2 3,.cell 1 0,.cell 1 3],[],[(38,[.slc n cs,.flat (.string (S ty)),.flat (.string (S tx)),.slc ps.length (lcells ps)]),(26,zcells),(26,[.slc m fs,.flat (.string (S ty)),.flat (.string (S tx)),.slc 0 []])]⟩
  = some (.exit 2,⟨[(4,.ptr 1 0),(5,.ptr 2 0)],if ps=[] then [.cell 2 0,.cell 2 3,.cell 1 0,.cell 1 3] else [.cell 2 3,.cell 2 0,.cell 1 0,.cell 1 3],[],[(38,[.slc n cs,.flat (.string (S ty)),.flat (.string (S tx)),.slc ps.length (lcells ps)]),(26,zcells),(26,[.slc m fs,.flat (.string (S ty)),.flat (.string (S tx)),.slc ps.length (lcells ps)])]⟩):=by
 have hbv:bound=4294967296:=rfl
 unfold zcells
 cases d with
 | zero =>
   obtain rfl:=h0 rfl
   simp (maxSteps:=999999) (disch:=first | assumption | omega) only [go_sem,simprocAttr,au,on_nunciolaw14_mine_1,big_on,loop_on,kLoop_n,kLoop_e,lcells,hcs,hfs,List.length_nil]
 | succ d =>
   have hrec:=hrec d rfl
   have hdd:((d:Int)+1 - 1)=(d:Int):=by omega
   clear h0
   match ps,hps,hrec with
   | [],_,hrec =>
     simp (maxSteps:=999999) (disch:=first | assumption | omega) only [go_sem,simprocAttr,au,on_nunciolaw14_mine_1,big_on,loop_on,kLoop_n,kLoop_e,lcells,LP.cells,List.append_nil,hcs,hfs,hdd,fcells_np,lcells_np,List.length_nil,List.length_cons]
   | [p],_,hrec =>
     have q0:=hrec p (by simp)
     have y0:=fun n=>LP.low (n:=n) p
     obtain ⟨a0,b0,c0,e0⟩:=p
     simp only [LP.cells,lows,PV.low,Bool.and_true,Bool.true_and,Bool.and_eq_true] at y0 q0
     simp (maxSteps:=999999) (disch:=first | assumption | omega) only [go_sem,simprocAttr,au,on_nunciolaw14_mine_1,big_on,loop_on,kLoop_n,kLoop_e,lcells,LP.cells,List.append_nil,hcs,hfs,hdd,fcells_np,lcells_np,y0,q0,List.length_nil,List.length_cons]
   | [p,q],_,hrec =>
     have q0:=hrec p (by simp)
     have y0:=fun n=>LP.low (n:=n) p
     have q1:=hrec q (by simp)
     have y1:=fun n=>LP.low (n:=n) q
     obtain ⟨a0,b0,c0,e0⟩:=p
     obtain ⟨a1,b1,c1,e1⟩:=q
     simp only [LP.cells,lows,PV.low,Bool.and_true,Bool.true_and,Bool.and_eq_true] at y0 q0 y1 q1
     simp (maxSteps:=999999) (disch:=first | assumption | omega) only [go_sem,simprocAttr,au,on_nunciolaw14_mine_1,big_on,loop_on,kLoop_n,kLoop_e,lcells,LP.cells,List.append_nil,hcs,hfs,hdd,fcells_np,lcells_np,y0,q0,y1,q1,List.length_nil,List.length_cons]
   | [p,q,r],_,hrec =>
     have q0:=hrec p (by simp)
     have y0:=fun n=>LP.low (n:=n) p
     have q1:=hrec q (by simp)
     have y1:=fun n=>LP.low (n:=n) q
     have q2:=hrec r (by simp)
     have y2:=fun n=>LP.low (n:=n) r
     obtain ⟨a0,b0,c0,e0⟩:=p
     obtain ⟨a1,b1,c1,e1⟩:=q
     obtain ⟨a2,b2,c2,e2⟩:=r
     simp only [LP.cells,lows,PV.low,Bool.and_true,Bool.true_and,Bool.and_eq_true] at y0 q0 y1 q1 y2 q2
     simp (maxSteps:=999999) (disch:=first | assumption | omega) only [go_sem,simprocAttr,au,on_nunciolaw14_mine_1,big_on,loop_on,kLoop_n,kLoop_e,lcells,LP.cells,List.append_nil,hcs,hfs,hdd,fcells_np,lcells_np,y0,q0,y1,q1,y2,q2,List.length_nil,List.length_cons]
   | _::_::_::_::_,h,_=>simp at h
mutual
def LP.tiny:Nat→LP→Prop
 | 0,.mk F ty tx ps=>F.length≤4∧ps=[]
 | d+1,.mk F ty tx ps=>F.length≤4∧ps.length≤3∧ltiny d ps
def ltiny:Nat→List LP→Prop
 | d,[]=>True
 | d,p::r=>p.tiny d∧ltiny d r
end
theorem ltiny_mem:∀ {d:Nat} {l:List LP} {p:LP},ltiny d l→p∈l→p.tiny d
 | d,q::l,p,h,hp=>by
   unfold ltiny at h
   rcases List.mem_cons.1 hp with rfl | hp
   ·exact h.1
   ·exact ltiny_mem h.2 hp
theorem ltiny_of:∀ {d:Nat} (l:List LP),(∀ p∈l,p.tiny d)→ltiny d l
 | d,[],_=>by unfold ltiny;trivial
 | d,q::l,h=>by
   unfold ltiny
   exact ⟨h q (by simp),ltiny_of l fun p hp=>h p (by simp [hp])⟩
theorem light_tiny:∀ (d:Nat) (p:LP),(lightP d p).tiny d
 | 0,.mk F ty tx ps=>by
   unfold lightP LP.tiny
   exact ⟨by rw [List.length_take];omega,rfl⟩
 | d+1,.mk F ty tx ps=>by
   unfold lightP LP.tiny
   refine ⟨by rw [List.length_take];omega,by rw [List.length_map,List.length_take];omega,ltiny_of _ fun p hp=>?_⟩
   obtain ⟨q,_,rfl⟩:=List.mem_map.1 hp
   exact light_tiny d q
set_option maxHeartbeats 1000000 in
theorem mine_one (d:Nat) (F:List Fld) (ty tx:Str) (ps:List LP) (hd:d≤10) (hF:F.length≤4) (hps:ps.length≤3) (h0:d=0→ps=[]) (hrec:∀ d',d=d'+1→∀ p∈ps,evW code lib 14 [.agg p.cells,.flat (.int .i64 (d':Nat))] [] []=some ([.agg p.cells],false,[],[])) :
 evW code lib 14 [.agg (LP.mk F ty tx ps).cells,.flat (.int .i64 (d:Nat))] [] []=some ([.agg (LP.mk F ty tx ps).cells],false,[],[]):=by
 have hlo:=fun n=>fcells_low (n:=n) F
 have hlp:=fun n=>lcells_low (n:=n) ps
 have l0:=mine_l0 (lib:=lib) F hF d ps.length (lcells ps) hlp ty tx
 have l1:=mine_l1 (lib:=lib) d hd ps hps h0 hrec F.length F.length (fcells F) (fcells F) hlo hlo ty tx
 unfold zcells at l0 l1
 simp only [LP.cells]
 clear hrec h0
 refine evW_eq code_nunciolaw14_mine (Nat.le_of_ble_eq_true rfl) ?_
 by_cases hR:ps=[]
 ·subst hR
  simp only [if_true] at l1
  simp only [lcells,List.length_nil] at l0 l1 ⊢
  simp (maxSteps:=999999) (disch:=first | assumption | omega) only [go_sem,simprocAttr,au,l0,l1,hlo,fcells_np]
 ·simp only [hR,if_false] at l1
  simp (maxSteps:=999999) (disch:=first | assumption | omega) only [go_sem,simprocAttr,au,l0,l1,hlo,hlp,fcells_np,lcells_np]
theorem mine_ev:∀ (k d:Nat) (p:LP),p.tiny k→k≤d→d≤10→evW code lib 14 [.agg p.cells,.flat (.int .i64 (d:Nat))] [] []=some ([.agg p.cells],false,[],[])
 | 0,d,.mk F ty tx ps,h,hk,hd=>by
   unfold LP.tiny at h
   obtain ⟨h1,rfl⟩:=h
   exact mine_one d F ty tx [] hd h1 (by simp) (fun _=>rfl) fun d' e p hp=>by cases hp
 | k+1,d,.mk F ty tx ps,h,hk,hd=>by
   unfold LP.tiny at h
   obtain ⟨h1,h2,h3⟩:=h
   exact mine_one d F ty tx ps hd h1 h2 (fun e=>by omega) fun d' e p hp=>mine_ev k d' p (ltiny_mem h3 hp) (by omega) (by omega)
theorem zip_all:∀ (F G:List Fld),F.length=G.length→((F.zip G).all fun q=>decide (q.1=q.2))=decide (F=G)
 | [],[],_=>rfl
 | a::F,b::G,h=>by
   rw [List.zip_cons_cons,List.all_cons,zip_all F G (by simpa using h)]
   by_cases h1:a=b<;>by_cases h2:F=G<;>simp [h1,h2]
theorem drop_of {F:List Fld} {k:Nat} {x:Fld} (h:F[k]? =some x):F.drop k=x::F.drop (k+1):=by
 obtain ⟨h1,h2⟩:=List.getElem?_eq_some_iff.1 h
 rw [List.drop_eq_getElem_cons h1,h2]
set_option maxHeartbeats 1000000 in
theorem same13_ev (F G:List Fld) (hF:F.length≤1000) (hG:G.length≤1000):evW code lib 23 [.slc F.length (fcells F),.slc G.length (fcells G)] [] []=some ([.flat (.bool (decide (F=G)))],false,[],[]):=by
 have hlF:=fun n=>fcells_low (n:=n) F
 have hlG:=fun n=>fcells_low (n:=n) G
 by_cases hl:F.length=G.length
 ·have hzl:(F.zip G).length=F.length:=by rw [List.length_zip];omega
  have hloop:=loop_at (body:=evC (evW code lib) big b_n13_Same_0) (live:=[0,1,5]) (nb:=0) (fun (_:Unit) k=>⟨[(0,.slc F.length (fcells F)),(1,.slc F.length (fcells G)),(5,.flat (.int .i64 (k:Nat)))],[],[],[]⟩) (F.zip G) (fun _ _=>True)
   (fun _ k x=>if (fun q:Fld × Fld=>decide (q.1=q.2)) x then .inl () else .inr (.ret,⟨[(4,.flat (.bool false))],[],[],[]⟩)) (fun _=>(.exit 0,⟨[],[],[],[]⟩)) (fun _ k c _ hk hc hd=>?_) (fun _ _=>by simp only [go_sem,simprocAttr,hlF,hlG]) (fun _ _ _ _ _ _ _ _=>trivial) (fun _ _ x r h=>by split at h<;>simp at h;rw [← h];simp) (fun _ _=>?_) (fun _=>by simp) () trivial (by rw [hzl];unfold big;omega)
  ·rw [walk_all,zip_all F G hl] at hloop
   simp only [n0] at hloop
   refine evW_eq code_n13_Same (Nat.le_of_ble_eq_true rfl) ?_
   rw [← hl]
   by_cases he:F=G
   ·simp only [he,decide_true,if_true] at hloop ⊢
    subst he
    simp (maxSteps:=999999) (disch:=first | assumption | omega) only [go_sem,simprocAttr,au,hloop,hlF]
   ·simp only [he,decide_false,Bool.false_eq_true,if_false] at hloop ⊢
    simp (maxSteps:=999999) (disch:=first | assumption | omega) only [go_sem,simprocAttr,au,hloop,hlF,hlG]
  ·rw [List.getElem?_zip_eq_some] at hc
   obtain ⟨x,y⟩:=c
   obtain ⟨k1,k2⟩:=hc
   have a1:=fcells_at (a:=x.1) (b:=x.2) (drop_of k1)
   have a2:=fcells_at (a:=y.1) (b:=y.2) (drop_of k2)
   have b1:((fcells F).drop (k * 2)).length=(F.length - k) * 2:=by rw [List.length_drop,fcells_len];omega
   have b2:((fcells G).drop (k * 2)).length=(F.length - k) * 2:=by rw [List.length_drop,fcells_len];omega
   rw [a1] at b1
   rw [a2] at b2
   simp only [List.length_cons] at b1 b2
   rw [hzl] at hk
   obtain ⟨x1,x2⟩:=x
   obtain ⟨y1,y2⟩:=y
   dsimp only at a1 a2 ⊢
   clear hd k1 k2
   by_cases e1:x1=y1
   ·by_cases e2:x2=y2
    ·simp only [e1,e2,decide_true,if_true]
     subst e1 e2
     simp (maxSteps:=999999) (disch:=first | assumption | omega) only [go_sem,simprocAttr,au,on_n13_Same_0,a1,a2,b1,b2,hlF,hlG]
    ·have e2':=eq_false e2
     simp only [e1,e2',Prod.mk.injEq,and_false,decide_false,Bool.false_eq_true,if_false]
     subst e1
     simp (maxSteps:=999999) (disch:=first | assumption | omega) only [go_sem,simprocAttr,au,on_n13_Same_0,a1,a2,b1,b2,hlF,hlG,e2']
   ·have e1':=eq_false e1
    simp only [e1',Prod.mk.injEq,false_and,decide_false,Bool.false_eq_true,if_false]
    simp (maxSteps:=999999) (disch:=first | assumption | omega) only [go_sem,simprocAttr,au,on_n13_Same_0,a1,a2,b1,b2,hlF,hlG,e1']
  ·rw [hzl]
   simp (maxSteps:=999999) (disch:=first | assumption | omega) only [go_sem,simprocAttr,au,on_n13_Same_0,hlF,hlG]
 ·have hne:F≠G:=fun e=>hl (by rw [e])
  have hl':((F.length:Int)=(G.length:Int))=False:=by apply eq_false;omega
  simp only [hne,decide_false]
  refine evW_eq code_n13_Same (Nat.le_of_ble_eq_true rfl) ?_
  simp (maxSteps:=999999) (disch:=first | assumption | omega) only [go_sem,simprocAttr,au,hl',hlF,hlG]
noncomputable def eqP (p q:LP):Bool:=@decide (p=q) (Classical.propDecidable _)
noncomputable def eqL (p q:List LP):Bool:=@decide (p=q) (Classical.propDecidable _)
theorem eqP_t {p q:LP} (h:p=q):eqP p q=true:=by unfold eqP;simp [h]
theorem zipP_all:∀ (P Q:List LP),P.length=Q.length→((P.zip Q).all fun x=>eqP x.1 x.2)=eqL P Q
 | [],[],_=>by simp [eqL]
 | a::P,b::Q,h=>by
   rw [List.zip_cons_cons,List.all_cons,zipP_all P Q (by simpa using h)]
   unfold eqP eqL
   by_cases h1:a=b<;>by_cases h2:P=Q<;>simp [h1,h2]
theorem dropP_of {F:List LP} {k:Nat} {x:LP} (h:F[k]? =some x):F.drop k=x::F.drop (k+1):=by
 obtain ⟨h1,h2⟩:=List.getElem?_eq_some_iff.1 h
 rw [List.drop_eq_getElem_cons h1,h2]
theorem eqP_mk (F G:List Fld) (a b c d:Str) (ps qs:List LP):eqP (.mk F a b ps) (.mk G c d qs)=(decide (a=c) && (decide (b=d) && (decide (F=G) && eqL ps qs))):=by
 unfold eqP eqL
 by_cases h1:a=c<;>by_cases h2:b=d<;>by_cases h3:F=G<;>by_cases h4:ps=qs<;>simp [h1,h2,h3,h4]
set_option maxHeartbeats 2000000 in
theorem same14_one (F G:List Fld) (a b c d:Str) (ps qs:List LP) (hF:F.length≤1000) (hG:G.length≤1000) (hp:ps.length≤1000) (hq:qs.length≤1000)
 (hrec:∀ x∈ps,∀ y∈qs,evW code lib 15 [.agg x.cells,.agg y.cells] [] []=some ([.flat (.bool (eqP x y))],false,[],[])) :
 evW code lib 15 [.agg (LP.mk F a b ps).cells,.agg (LP.mk G c d qs).cells] [] []=some ([.flat (.bool (eqP (.mk F a b ps) (.mk G c d qs)))],false,[],[]):=by
 have hlF:=fun n=>fcells_low (n:=n) F
 have hlG:=fun n=>fcells_low (n:=n) G
 have hlp:=fun n=>lcells_low (n:=n) ps
 have hlq:=fun n=>lcells_low (n:=n) qs
 have h13:=same13_ev (lib:=lib) F G hF hG
 rw [eqP_mk]
 simp only [LP.cells]
 refine evW_eq code_n14_Same (Nat.le_of_ble_eq_true rfl) ?_
 by_cases e1:a=c
 case neg =>
  have e1':=eq_false e1
  simp only [e1',decide_false,Bool.false_and]
  simp (maxSteps:=999999) (disch:=first | assumption | omega) only [go_sem,simprocAttr,au,e1',hlF,hlG,hlp,hlq,fcells_np,lcells_np]
 have e1':=eq_true e1
 by_cases e2:b=d
 case neg =>
  have e2':=eq_false e2
  simp only [e1',e2',decide_false,decide_true,Bool.false_and,Bool.true_and]
  simp (maxSteps:=999999) (disch:=first | assumption | omega) only [go_sem,simprocAttr,au,e1',e2',hlF,hlG,hlp,hlq,fcells_np,lcells_np]
 have e2':=eq_true e2
 by_cases e3:F=G
 case neg =>
  have e3':=eq_false e3
  simp only [e3',decide_false] at h13
  simp only [e1',e2',e3',decide_false,decide_true,Bool.false_and,Bool.true_and]
  simp (maxSteps:=999999) (disch:=first | assumption | omega) only [go_sem,simprocAttr,au,e1',e2',h13,hlF,hlG,hlp,hlq,fcells_np,lcells_np]
 simp only [e3,decide_true] at h13
 by_cases hl:ps.length=qs.length
 case neg =>
  have hne:eqL ps qs=false:=by unfold eqL;simp only [decide_eq_false_iff_not];exact fun e=>hl (by rw [e])
  have hl':((ps.length:Int)=(qs.length:Int))=False:=by apply eq_false;omega
  subst e3
  simp only [e1',e2',hne,decide_true,Bool.and_false]
  simp (maxSteps:=999999) (disch:=first | assumption | omega) only [go_sem,simprocAttr,au,e1',e2',h13,hl',hlF,hlG,hlp,hlq,fcells_np,lcells_np]
 subst e1 e2 e3
 have hzl:(ps.zip qs).length=ps.length:=by rw [List.length_zip];omega
 have hloop:=loop_at (body:=evC (evW code lib) big b_n14_Same_0) (live:=[2,3,5]) (nb:=2) (fun (_:Unit) k=>⟨[(2,.ptr 0 0),(3,.ptr 1 0),(5,.flat (.int .i64 (k:Nat)))],[],[],[(38,[.slc F.length (fcells F),.flat (.string (S a)),.flat (.string (S b)),.slc ps.length (lcells ps)]),(38,[.slc F.length (fcells F),.flat (.string (S a)),.flat (.string (S b)),.slc ps.length (lcells qs)])]⟩) (ps.zip qs) (fun _ _=>True)
  (fun _ k x=>if (fun q:LP × LP=>eqP q.1 q.2) x then .inl () else .inr (.ret,⟨[(4,.flat (.bool false))],[],[],[(38,[.slc F.length (fcells F),.flat (.string (S a)),.flat (.string (S b)),.slc ps.length (lcells ps)]),(38,[.slc F.length (fcells F),.flat (.string (S a)),.flat (.string (S b)),.slc ps.length (lcells qs)])]⟩)) (fun _=>(.exit 0,⟨[],[],[],[(38,[.slc F.length (fcells F),.flat (.string (S a)),.flat (.string (S b)),.slc ps.length (lcells ps)]),(38,[.slc F.length (fcells F),.flat (.string (S a)),.flat (.string (S b)),.slc ps.length (lcells qs)])]⟩)) (fun _ k x _ hk hc hd=>?_) (fun _ _=>by simp only [go_sem,simprocAttr,hlF,hlp,hlq]) (fun _ _ _ _ _ _ _ _=>trivial) (fun _ _ x r h=>by split at h<;>simp at h;rw [← h];simp) (fun _ _=>?_) (fun _=>by simp) () trivial (by rw [hzl];unfold big;omega)
 ·rw [walk_all,zipP_all ps qs hl] at hloop
  simp only [n0] at hloop
  rw [← hl]
  cases he:eqL ps qs with
  | true =>
    simp only [he,if_true] at hloop
    simp only [decide_true,Bool.true_and]
    simp (maxSteps:=999999) (disch:=first | assumption | omega) only [go_sem,simprocAttr,au,hloop,h13,hlF,hlp,hlq,fcells_np,lcells_np]
  | false =>
    simp only [he,Bool.false_eq_true,if_false] at hloop
    simp only [decide_true,Bool.true_and]
    simp (maxSteps:=999999) (disch:=first | assumption | omega) only [go_sem,simprocAttr,au,hloop,h13,hlF,hlp,hlq,fcells_np,lcells_np]
 ·rw [List.getElem?_zip_eq_some] at hc
  obtain ⟨x,y⟩:=x
  obtain ⟨k1,k2⟩:=hc
  have hr:=hrec x (List.mem_of_getElem? k1) y (List.mem_of_getElem? k2)
  have a1:=lcells_at (dropP_of k1)
  have a2:=lcells_at (dropP_of k2)
  have b1:((lcells ps).drop (k * 4)).length=(ps.length - k) * 4:=by rw [List.length_drop,lcells_len];omega
  have b2:((lcells qs).drop (k * 4)).length=(ps.length - k) * 4:=by rw [List.length_drop,lcells_len];omega
  have hnx:=LP.np x
  have hny:=LP.np y
  rw [hzl] at hk
  dsimp only
  obtain ⟨E,hE⟩:∃ E,eqP x y=E:=⟨_,rfl⟩
  rw [hE] at hr
  simp only [hE]
  clear hE
  obtain ⟨x1,x2,x3,x4⟩:=x
  obtain ⟨y1,y2,y3,y4⟩:=y
  simp only [LP.cells,List.cons_append,List.nil_append] at a1 a2 hr hnx hny
  rw [a1] at b1
  rw [a2] at b2
  simp only [List.length_cons] at b1 b2
  clear hd k1 k2 hrec h13
  cases E with
  | true =>
    simp only [if_true]
    simp (maxSteps:=999999) (disch:=first | assumption | omega) only [go_sem,simprocAttr,au,on_n14_Same_0,a1,a2,b1,b2,hr,hlF,hlp,hlq,fcells_np,lcells_np]
  | false =>
    simp only [Bool.false_eq_true,if_false]
    simp (maxSteps:=999999) (disch:=first | assumption | omega) only [go_sem,simprocAttr,au,on_n14_Same_0,a1,a2,b1,b2,hr,hlF,hlp,hlq,fcells_np,lcells_np]
 ·rw [hzl]
  simp (maxSteps:=999999) (disch:=first | assumption | omega) only [go_sem,simprocAttr,au,on_n14_Same_0,hlF,hlp,hlq]
theorem same14_ev:∀ (k:Nat) (p q:LP),p.tiny k→q.tiny k→evW code lib 15 [.agg p.cells,.agg q.cells] [] []=some ([.flat (.bool (eqP p q))],false,[],[])
 | 0,.mk F a b ps,.mk G c d qs,h,h'=>by
   unfold LP.tiny at h h'
   obtain ⟨h1,rfl⟩:=h
   obtain ⟨h3,rfl⟩:=h'
   exact same14_one F G a b c d [] [] (by omega) (by omega) (by simp) (by simp) fun x hx=>by cases hx
 | k+1,.mk F a b ps,.mk G c d qs,h,h'=>by
   unfold LP.tiny at h h'
   obtain ⟨h1,h2,h3⟩:=h
   obtain ⟨g1,g2,g3⟩:=h'
   exact same14_one F G a b c d ps qs (by omega) (by omega) (by omega) (by omega) fun x hx y hy=>same14_ev k x y (ltiny_mem h3 hx) (ltiny_mem g3 hy)
set_option maxHeartbeats 1000000 in
theorem equal_ev (F G:List Fld) (hF:F.length≤1000) (hG:G.length≤1000):evW code lib 21 [.slc F.length (fcells F),.slc G.length (fcells G)] [] []=some ([.flat (.bool (decide (F=G)))],false,[],[]):=by
 have hlF:=fun n=>fcells_low (n:=n) F
 have hlG:=fun n=>fcells_low (n:=n) G
 by_cases hl:F.length=G.length
 ·have hzl:(F.zip G).length=F.length:=by rw [List.length_zip];omega
  have hloop:=loop_at (body:=evC (evW code lib) big b_slices_Equal_head_Field_head_Field_0) (live:=[0,1,12,13]) (nb:=0) (fun (_:Unit) k=>⟨[(0,.slc F.length (fcells F)),(1,.slc F.length (fcells G)),(12,.flat (.int .i64 (F.length:Nat))),(13,.flat (.int .i64 (k:Nat)))],[],[],[]⟩) (F.zip G) (fun _ _=>True)
   (fun _ k x=>if (fun q:Fld × Fld=>decide (q.1=q.2)) x then .inl () else .inr (.ret,⟨[(4,.flat (.bool false))],[],[],[]⟩)) (fun _=>(.exit 0,⟨[],[],[],[]⟩)) (fun _ k c _ hk hc hd=>?_) (fun _ _=>by simp only [go_sem,simprocAttr,hlF,hlG]) (fun _ _ _ _ _ _ _ _=>trivial) (fun _ _ x r h=>by split at h<;>simp at h;rw [← h];simp) (fun _ _=>?_) (fun _=>by simp) () trivial (by rw [hzl];unfold big;omega)
  ·rw [walk_all,zip_all F G hl] at hloop
   simp only [n0] at hloop
   refine evW_eq code_slices_Equal_head_Field_head_Field (Nat.le_of_ble_eq_true rfl) ?_
   rw [← hl]
   by_cases he:F=G
   ·simp only [he,decide_true,if_true] at hloop ⊢
    subst he
    simp (maxSteps:=999999) (disch:=first | assumption | omega) only [go_sem,simprocAttr,au,hloop,hlF]
   ·simp only [he,decide_false,Bool.false_eq_true,if_false] at hloop ⊢
    simp (maxSteps:=999999) (disch:=first | assumption | omega) only [go_sem,simprocAttr,au,hloop,hlF,hlG]
  ·rw [List.getElem?_zip_eq_some] at hc
   obtain ⟨x,y⟩:=c
   obtain ⟨k1,k2⟩:=hc
   have a1:=fcells_at (a:=x.1) (b:=x.2) (drop_of k1)
   have a2:=fcells_at (a:=y.1) (b:=y.2) (drop_of k2)
   have b1:((fcells F).drop (k * 2)).length=(F.length - k) * 2:=by rw [List.length_drop,fcells_len];omega
   have b2:((fcells G).drop (k * 2)).length=(F.length - k) * 2:=by rw [List.length_drop,fcells_len];omega
   rw [a1] at b1
   rw [a2] at b2
   simp only [List.length_cons] at b1 b2
   rw [hzl] at hk
   obtain ⟨x1,x2⟩:=x
   obtain ⟨y1,y2⟩:=y
   dsimp only at a1 a2 ⊢
   clear hd k1 k2
   by_cases e1:x1=y1
   ·by_cases e2:x2=y2
    ·simp only [e1,e2,decide_true,if_true]
     subst e1 e2
     simp (maxSteps:=999999) (disch:=first | assumption | omega) only [go_sem,simprocAttr,au,on_slices_Equal_head_Field_head_Field_0,a1,a2,b1,b2,hlF,hlG]
    ·have e2':=eq_false e2
     simp only [e1,e2',Prod.mk.injEq,and_false,decide_false,Bool.false_eq_true,if_false]
     subst e1
     simp (maxSteps:=999999) (disch:=first | assumption | omega) only [go_sem,simprocAttr,au,on_slices_Equal_head_Field_head_Field_0,a1,a2,b1,b2,hlF,hlG,e2']
   ·have e1':=eq_false e1
    simp only [e1',Prod.mk.injEq,false_and,decide_false,Bool.false_eq_true,if_false]
    simp (maxSteps:=999999) (disch:=first | assumption | omega) only [go_sem,simprocAttr,au,on_slices_Equal_head_Field_head_Field_0,a1,a2,b1,b2,hlF,hlG,e1']
  ·rw [hzl]
   simp (maxSteps:=999999) (disch:=first | assumption | omega) only [go_sem,simprocAttr,au,on_slices_Equal_head_Field_head_Field_0,hlF,hlG]
 ·have hne:F≠G:=fun e=>hl (by rw [e])
  have hl':((F.length:Int)=(G.length:Int))=False:=by apply eq_false;omega
  simp only [hne,decide_false]
  refine evW_eq code_slices_Equal_head_Field_head_Field (Nat.le_of_ble_eq_true rfl) ?_
  simp (maxSteps:=999999) (disch:=first | assumption | omega) only [go_sem,simprocAttr,au,hl',hlF,hlG]
theorem walk_ex {β:Type} {p:β→Bool} {g:β→Out × St} {fin:Unit→Out × St}:∀ (L:List β) (k:Nat),(L.all p=true→walkL (fun (_:Unit) _ x=>if p x then .inl () else .inr (g x)) fin () k L=fin ())∧(L.all p=false→∃ x,walkL (fun (_:Unit) _ x=>if p x then .inl () else .inr (g x)) fin () k L=g x)
 | [],k=>⟨fun _=>rfl,fun h=>by simp at h⟩
 | x::t,k=>by
   rw [walkL,List.all_cons]
   cases hp:p x with
   | true =>
     rw [if_pos rfl,Bool.true_and]
     exact walk_ex t _
   | false =>
     rw [if_neg (by simp),Bool.false_and]
     exact ⟨fun h=>(by cases h),fun _=>⟨x,rfl⟩⟩
set_option maxHeartbeats 2000000 in
theorem equalf_ev (P Q:List PV) (hP:∀ n,lows n P=true) (hQ:∀ n,lows n Q=true) (ps qs:List LP) (hp:ps.length≤1000) (hq:qs.length≤1000)
 (hrec:∀ x∈ps,∀ y∈qs,evW code lib 13 [.agg x.cells,.agg y.cells] [] []=some ([.flat (.bool (eqP x y))],false,[],[])) :
 evW code lib 22 [.slc ps.length (lcells ps),.slc qs.length (lcells qs),.clo 13 []] [(26,P),(26,Q)] []=some ([.flat (.bool (eqL ps qs))],false,[(26,P),(26,Q)],[]):=by
 have hlp:=fun n=>lcells_low (n:=n) ps
 have hlq:=fun n=>lcells_low (n:=n) qs
 refine evW_eq code_slices_EqualFunc_letter_Part_letter_Part_letter_Part_letter_Part (Nat.le_of_ble_eq_true rfl) ?_
 by_cases hl:ps.length=qs.length
 case neg =>
  have hne:eqL ps qs=false:=by unfold eqL;simp only [decide_eq_false_iff_not];exact fun e=>hl (by rw [e])
  have hl':((ps.length:Int)=(qs.length:Int))=False:=by apply eq_false;omega
  simp only [hne]
  simp (maxSteps:=999999) (disch:=first | assumption | omega) only [go_sem,simprocAttr,au,hl',hP,hQ,hlp,hlq]
 have hzl:(ps.zip qs).length=ps.length:=by rw [List.length_zip];omega
 have hloop:=loop_at (body:=evC (evW code lib) big b_slices_EqualFunc_letter_Part_letter_Part_letter_Part_letter_Part_0) (live:=[1,2,15,16,17]) (nb:=2) (fun (_:Unit) k=>⟨[(1,.slc ps.length (lcells qs)),(2,.clo 13 []),(15,.slc ps.length (lcells ps)),(16,.flat (.int .i64 (ps.length:Nat))),(17,.flat (.int .i64 (k:Nat)))],[],[],[(26,P),(26,Q)]⟩) (ps.zip qs) (fun _ _=>True)
  (fun _ k x=>if (fun q:LP × LP=>eqP q.1 q.2) x then .inl () else .inr ((fun q:LP × LP=>(Out.ret,(⟨[(6,.flat (.bool false))],[],[],[(26,P),(26,Q),(26,q.1.cells),(26,q.2.cells)]⟩:St))) x)) (fun _=>(.exit 0,⟨[],[],[],[(26,P),(26,Q)]⟩)) (fun _ k x _ hk hc hd=>?_) (fun _ _=>by simp only [go_sem,simprocAttr,hP,hQ,hlp,hlq]) (fun _ _ _ _ _ _ _ _=>trivial) (fun _ _ x r h=>by split at h<;>simp at h;rw [← h];simp) (fun _ _=>?_) (fun _=>by simp) () trivial (by rw [hzl];unfold big;omega)
 ·have hw:=walk_ex (p:=fun q:LP × LP=>eqP q.1 q.2) (g:=fun q:LP × LP=>(Out.ret,(⟨[(6,.flat (.bool false))],[],[],[(26,P),(26,Q),(26,q.1.cells),(26,q.2.cells)]⟩:St))) (fin:=fun _=>(.exit 0,⟨[],[],[],[(26,P),(26,Q)]⟩)) (ps.zip qs) 0
  rw [zipP_all ps qs hl] at hw
  simp only [n0] at hloop
  rw [← hl]
  cases he:eqL ps qs with
  | true =>
    rw [hw.1 he] at hloop
    clear hw
    simp (maxSteps:=999999) (disch:=first | assumption | omega) only [go_sem,simprocAttr,au,hloop,hP,hQ,hlp,hlq,lcells_np]
  | false =>
    obtain ⟨⟨x,y⟩,hx⟩:=hw.2 he
    rw [hx] at hloop
    clear hw hx
    obtain ⟨x1,x2,x3,x4⟩:=x
    obtain ⟨y1,y2,y3,y4⟩:=y
    simp only [LP.cells] at hloop
    simp (maxSteps:=999999) (disch:=first | assumption | omega) only [go_sem,simprocAttr,au,hloop,hP,hQ,hlp,hlq,lcells_np]
 ·rw [List.getElem?_zip_eq_some] at hc
  obtain ⟨x,y⟩:=x
  obtain ⟨k1,k2⟩:=hc
  have hr:=hrec x (List.mem_of_getElem? k1) y (List.mem_of_getElem? k2)
  have a1:=lcells_at (dropP_of k1)
  have a2:=lcells_at (dropP_of k2)
  have b1:((lcells ps).drop (k * 4)).length=(ps.length - k) * 4:=by rw [List.length_drop,lcells_len];omega
  have b2:((lcells qs).drop (k * 4)).length=(ps.length - k) * 4:=by rw [List.length_drop,lcells_len];omega
  have hnx:=LP.np x
  have hny:=LP.np y
  have hlx:=fun n=>LP.low (n:=n) x
  have hly:=fun n=>LP.low (n:=n) y
  rw [hzl] at hk
  dsimp only
  obtain ⟨E,hE⟩:∃ E,eqP x y=E:=⟨_,rfl⟩
  rw [hE] at hr
  simp only [hE]
  clear hE
  obtain ⟨x1,x2,x3,x4⟩:=x
  obtain ⟨y1,y2,y3,y4⟩:=y
  simp only [LP.cells,List.cons_append,List.nil_append] at a1 a2 hr hnx hny ⊢
  simp only [LP.cells,lows,PV.low,Bool.and_true,Bool.true_and,Bool.and_eq_true] at hlx hly
  rw [a1] at b1
  rw [a2] at b2
  simp only [List.length_cons] at b1 b2
  clear hd k1 k2 hrec
  cases E with
  | true =>
    simp only [if_true]
    simp (maxSteps:=999999) (disch:=first | assumption | omega) only [go_sem,simprocAttr,au,on_slices_EqualFunc_letter_Part_letter_Part_letter_Part_letter_Part_0,a1,a2,b1,b2,hr,hP,hQ,hlp,hlq,hlx,hly,fcells_np,lcells_np]
  | false =>
    simp only [Bool.false_eq_true,if_false]
    simp (maxSteps:=999999) (disch:=first | assumption | omega) only [go_sem,simprocAttr,au,on_slices_EqualFunc_letter_Part_letter_Part_letter_Part_letter_Part_0,a1,a2,b1,b2,hr,hP,hQ,hlp,hlq,hlx,hly,fcells_np,lcells_np]
 ·rw [hzl]
  simp (maxSteps:=999999) (disch:=first | assumption | omega) only [go_sem,simprocAttr,au,on_slices_EqualFunc_letter_Part_letter_Part_letter_Part_letter_Part_0,hP,hQ,hlp,hlq]
set_option maxHeartbeats 1000000 in
theorem lsame_one (F G:List Fld) (a b c d:Str) (ps qs:List LP) (hF:F.length≤1000) (hG:G.length≤1000) (hp:ps.length≤1000) (hq:qs.length≤1000)
 (hrec:∀ x∈ps,∀ y∈qs,evW code lib 13 [.agg x.cells,.agg y.cells] [] []=some ([.flat (.bool (eqP x y))],false,[],[])) :
 evW code lib 13 [.agg (LP.mk F a b ps).cells,.agg (LP.mk G c d qs).cells] [] []=some ([.flat (.bool (eqP (.mk F a b ps) (.mk G c d qs)))],false,[],[]):=by
 have hlF:=fun n=>fcells_low (n:=n) F
 have hlG:=fun n=>fcells_low (n:=n) G
 have hlp:=fun n=>lcells_low (n:=n) ps
 have hlq:=fun n=>lcells_low (n:=n) qs
 have h1:=equal_ev (lib:=lib) F G hF hG
 have h2:=equalf_ev (lib:=lib) [.slc F.length (fcells F),.flat (.string (S a)),.flat (.string (S b)),.slc ps.length (lcells ps)] [.slc G.length (fcells G),.flat (.string (S c)),.flat (.string (S d)),.slc qs.length (lcells qs)] (fun n=>by simp only [lows,PV.low,hlF n,hlp n,Bool.and_self]) (fun n=>by simp only [lows,PV.low,hlG n,hlq n,Bool.and_self]) ps qs hp hq hrec
 clear hrec
 rw [eqP_mk]
 simp only [LP.cells]
 generalize eqL ps qs=E at *
 generalize decide (F=G)=D at *
 refine evW_eq code_letter_Same (Nat.le_of_ble_eq_true rfl) ?_
 by_cases e1:a=c
 case neg =>
  have e1':=eq_false e1
  simp only [e1',decide_false,Bool.false_and]
  simp (maxSteps:=999999) (disch:=first | assumption | omega) only [go_sem,simprocAttr,au,e1',hlF,hlG,hlp,hlq,fcells_np,lcells_np]
 have e1':=eq_true e1
 by_cases e2:b=d
 case neg =>
  have e2':=eq_false e2
  simp only [e1',e2',decide_false,decide_true,Bool.false_and,Bool.true_and]
  simp (maxSteps:=999999) (disch:=first | assumption | omega) only [go_sem,simprocAttr,au,e1',e2',hlF,hlG,hlp,hlq,fcells_np,lcells_np]
 have e2':=eq_true e2
 simp only [e1',e2',decide_true,Bool.true_and]
 cases D with
 | false =>
   simp only [Bool.false_and]
   simp (maxSteps:=999999) (disch:=first | assumption | omega) only [go_sem,simprocAttr,au,e1',e2',h1,hlF,hlG,hlp,hlq,fcells_np,lcells_np]
 | true =>
   simp only [Bool.true_and]
   simp (maxSteps:=999999) (disch:=first | assumption | omega) only [go_sem,simprocAttr,au,e1',e2',h1,h2,hlF,hlG,hlp,hlq,fcells_np,lcells_np]
theorem lsame_ev:∀ (k:Nat) (p q:LP),p.tiny k→q.tiny k→evW code lib 13 [.agg p.cells,.agg q.cells] [] []=some ([.flat (.bool (eqP p q))],false,[],[])
 | 0,.mk F a b ps,.mk G c d qs,h,h'=>by
   unfold LP.tiny at h h'
   obtain ⟨h1,rfl⟩:=h
   obtain ⟨h3,rfl⟩:=h'
   exact lsame_one F G a b c d [] [] (by omega) (by omega) (by simp) (by simp) fun x hx=>by cases hx
 | k+1,.mk F a b ps,.mk G c d qs,h,h'=>by
   unfold LP.tiny at h h'
   obtain ⟨h1,h2,h3⟩:=h
   obtain ⟨g1,g2,g3⟩:=h'
   exact lsame_one F G a b c d ps qs (by omega) (by omega) (by omega) (by omega) fun x hx y hy=>lsame_ev k x y (ltiny_mem h3 hx) (ltiny_mem g3 hy)
set_option maxHeartbeats 1000000 in
theorem sames14_ev (HP:LibParse lib) (p q:LP) (hp:p.wide) (hq:q.wide):evW code lib 4 [.agg p.cells,.agg q.cells] [] []=some ([.flat (.bool true)],false,[],[]):=by
 have q1:=light_ev (lib:=lib) 3 p (by decide) hp
 have q2:=light_ev (lib:=lib) 3 q (by decide) hq
 have t1:=light_tiny 3 p
 have t2:=light_tiny 3 q
 have hlp:=fun n=>LP.low (n:=n) p
 have hlq:=fun n=>LP.low (n:=n) q
 generalize lightP 3 p=p' at *
 generalize lightP 3 q=q' at *
 have m1:=mine_ev (lib:=lib) 3 4 p' t1 (by decide) (by decide)
 have m2:=mine_ev (lib:=lib) 3 4 q' t2 (by decide) (by decide)
 have s1:=lsame_ev (lib:=lib) 3 p' q' t1 t2
 have s2:=same14_ev (lib:=lib) 3 p' q' t1 t2
 have s3:=lsame_ev (lib:=lib) 3 p' p' t1 t1
 rw [eqP_t rfl] at s3
 have aw:=awake14_ev HP
 have n3:((3:Nat):Int)=3:=rfl
 have n4:((4:Nat):Int)=4:=rfl
 rw [n3] at q1 q2
 rw [n4] at m1 m2
 clear t1 t2 HP hp hq
 generalize eqP p' q'=E at *
 have hlp':=fun n=>LP.low (n:=n) p'
 have hlq':=fun n=>LP.low (n:=n) q'
 obtain ⟨a1,a2,a3,a4⟩:=p
 obtain ⟨b1,b2,b3,b4⟩:=q
 obtain ⟨c1,c2,c3,c4⟩:=p'
 obtain ⟨d1,d2,d3,d4⟩:=q'
 simp only [LP.cells] at q1 q2 m1 m2 s1 s2 s3 ⊢
 simp only [LP.cells,lows,PV.low,Bool.and_true,Bool.true_and,Bool.and_eq_true] at hlp hlq hlp' hlq'
 refine evW_eq code_nunciolaw14_LetterSames (Nat.le_of_ble_eq_true rfl) ?_
 cases E
 ·simp (maxSteps:=999999) (disch:=first | assumption | omega) only [go_sem,simprocAttr,au,q1,q2,m1,m2,s1,s2,s3,aw,beq_self_eq_true,hlp,hlq,hlp',hlq',fcells_np,lcells_np]
 ·simp (maxSteps:=999999) (disch:=first | assumption | omega) only [go_sem,simprocAttr,au,q1,q2,m1,m2,s1,s2,s3,aw,beq_self_eq_true,hlp,hlq,hlp',hlq',fcells_np,lcells_np]
end Nun
end
section
namespace Nun
open Go
variable {H:Type} {enc:TypeId × Value→H}
theorem returnsInHanded_of_change_and_shaped {a:Assume} {C:Checked} {os:Os} {f:FuncId} {fn:Func} {s:ChangeSpec} {conds:List PathCond} {apart fresh handsOn again:Bool} {X:World→Array Value→Prop}
 (hX:∀ (w w':World) (args:Array Value),w.heap=w'.heap→X w args→X w' args)
 (own:ownKnob C.prog.godebug=none) (started:os.Started) (noInit:C.prog.inits.idxOf? f=none) (hfn:C.prog.funcs[f]? =some fn)
 (witness:∃ (w:World) (tape:Tape) (i:Input),w.os=os∧(w.forCall tape i).Shaped C.prog∧i.vars=[]∧Input.okWide C.prog (w.forCall tape i) .any w.heap.size f i ∧
   ((s.pre enc C.prog fn conds apart (w.forCall tape i).memory i.args∧X (w.forCall tape i).memory i.args)∧sizedMet enc C.prog fn (OpenSpec.ofChange s) apart (w.forCall tape i).memory i.args)∧a.holds C.prog (lone (Frame.enter C.prog f i.args .normal) [] (w.forCall tape i)))
 (contract:∀ (W:World) (base:Nat) (args:Array Value) (ds gs:List (DataW H)) (before:List MemPlace),
   (∀ (j:Nat) t v,fn.params[j]? =some t→args[j]? =some v→Value.okWide C.prog W .any base t v) →
   DataW.Whole enc C.prog fn.params.toList s.vars apart W args.toList ds gs before →
   conds.all (PathCond.test C.prog ⟨fn.params.toList,ds,s.plain.varTypes C.prog,gs⟩)=true →
   (DataW.weightsEach C.prog (fn.params.toList++s.plain.varTypes C.prog) (ds++gs)).all (·≤reachBytes)=true→X W args →
   W.ShapedOpen C.prog →
   a.holds C.prog (lone (Frame.enter C.prog f args .normal) [] W) →
   Calls C.prog f args W fun e W'=>∃ v,e=.returned v∧s.post enc C.prog fn apart fresh handsOn again W args v W') :
 ReturnsInHanded a C os f .any (fun w args=>(s.pre enc C.prog fn conds apart w args∧X w args)∧sizedMet enc C.prog fn (OpenSpec.ofChange s) apart w args) (s.post enc C.prog fn apart fresh handsOn again):=by
 refine returnsInHanded_of_calls own started noInit witness ?_
 intro w tape i _ hsh _ hok hpre hholds
 obtain ⟨_,_,_,fn',hfn',_,_,_,_,hval⟩:=hok
 have e:fn'=fn:=Option.some.inj (hfn'.symm.trans hfn)
 subst e
 obtain ⟨⟨⟨ds,gs,before,hw,hc⟩,hx⟩,hz⟩:=hpre
 have hw':=DataW.Whole.of_heap (w':=w.forCall tape i) (by rfl) hw
 refine (contract (w.forCall tape i) w.heap.size i.args ds gs before hval hw' hc (hz.weights hw) (hX _ _ _ (by rfl) hx) hsh hholds).mono fun e W' ⟨v,he,hp⟩=>?_
 subst he
 exact ChangeSpec.post_blind hp
end Nun
namespace Go.Proofs.YtmpiobfdchlikaaDoor
open Go.ChangeShapes Go.WideShapes Go.ChangeAt Go.RowKit Nun
theorem max_of_shape {W:World} (h:W.ShapedOpen Tryd.prog):MaxIs W:=Go.Proofs.cell_of_shapedOpen_int (zero:=#[.int .i64 0]) (t:=3) h (of_decide_eq_true (by kernel_rfl)) (by kernel_rfl) rfl (by kernel_rfl) (by kernel_rfl) Tryd.underlying3
noncomputable def laidW (os:Os):World :=
 let w0:=World.holding Tryd.prog os ⟨#[],#[],[]⟩
 let put (h:Array Obj) (g:Nat) (cs:Array Value):Array Obj:=h.modify g fun
  | .cells _ t frozen=>.cells cs t frozen
  | o=>o
 let h1:=put w0.heap 1 (Lib.firstTab.map fun z=>Value.int .u8 z).toArray
 let h2:=put h1 2 ((List.range 16).flatMap fun i=>[Value.int .u8 (Lib.accLo i),Value.int .u8 (Lib.accHi i)]).toArray
 { w0 with heap:=h2 }
theorem door_met (os:Os) (args:Array Value):laidMetH Tryd.prog [("unicode/utf8.acceptRanges",Rows.laid_unicode_utf8_acceptRanges),("unicode/utf8.first",Rows.laid_unicode_utf8_first)] ((laidW os).forCall (fun _ _=>0) ⟨#[],args,[]⟩).memory :=
 laidMetH_of_parts3 (fuel:=8) (laidMet_of_run' 8 (by kernel_rfl) (by kernel_rfl)) (by kernel_rfl) (by kernel_rfl)
end Go.Proofs.YtmpiobfdchlikaaDoor
end
section
set_option maxRecDepth 100000
namespace Go.Proofs.YtmpiobfdchlikaaDoor
open Go.RowKit Nun
def Γ14:Glob where
 D g:=g=0
 G:=MaxIs
 lt w h g hg:=by
  subst hg;obtain ⟨m,hm⟩:=h;exact World.block_lt_of_cell? w _ hm
 keep w w' h hk:=by
  obtain ⟨m,hm⟩:=h
  refine ⟨m,?_⟩
  unfold World.cell? at hm ⊢;rw [hk _ rfl];exact hm
def tRq5:List Value→Option TupRes
 | [.string s]=>if s.size≤10000 then some (flt [.string (S (encL 0 s.data.toList))]) else none
 | _=>none
theorem tRq5_ok {Γ:Glob}:TupOk Tryd.prog Γ 8 tRq5:=tup_one (by kernel_rfl) fun vs R h=>by
 unfold tRq5 at h
 split at h
 ·split at h
  ·rename_i hs
   cases h
   exact ⟨_,rfl,by simp [flatV],fun w _=>(enc_ref _ w (by omega)).mono (by rintro e w' ⟨rfl,hb⟩;exact ⟨rfl,hb⟩)⟩
  ·cases h
 ·cases h
def tRe4:List Value→Option TupRes
 | [.string s]=>if s.size≤10000 then some (flt [.string (S (enc64 s.data.toList))]) else none
 | _=>none
theorem tRe4_ok {Γ:Glob}:TupOk Tryd.prog Γ 10 tRe4:=tup_one (by kernel_rfl) fun vs R h=>by
 unfold tRe4 at h
 split at h
 ·split at h
  ·rename_i hs
   cases h
   exact ⟨_,rfl,by simp [flatV],fun w _=>(encode_ref _ w (by omega)).mono (by rintro e w' ⟨rfl,hb⟩;exact ⟨by rw [enc_law _ _ (Nat.le_refl _)];rfl,hb⟩)⟩
  ·cases h
 ·cases h
def tRw4:List Value→Option TupRes
 | [.string s,.int .i64 n]=>if s.size≤10000∧n=76 then some (flt [.string (S (wrapL 75 s.data.toList))]) else none
 | _=>none
theorem tRw4_ok {Γ:Glob}:TupOk Tryd.prog Γ 9 tRw4:=tup_one (by kernel_rfl) fun vs R h=>by
 unfold tRw4 at h
 split at h
 ·split at h
  ·rename_i hs
   cases h
   obtain ⟨hs,rfl⟩:=hs
   exact ⟨_,rfl,by simp [flatV],fun w _=>(wrap_ref _ 76 w (by omega)).mono (by rintro e w' ⟨rfl,hb⟩;exact ⟨rfl,hb⟩)⟩
  ·cases h
 ·cases h
noncomputable def lib15:Nun.Callee:=both (parseLib lib14) (both (tupLib 8 tRq5) (both (tupLib 10 tRe4) (tupLib 9 tRw4)))
theorem lib15_ok:CallOk Tryd.prog Γ14 lib15:=both_ok (parseLib_ok (lib14_ok fun w h=>h)) (both_ok (tupLib_ok (by decide) tRq5_ok) (both_ok (tupLib_ok (by decide) tRe4_ok) (tupLib_ok (by decide) tRw4_ok)))
theorem l15_parse:LibParse lib15:=fun s p m hs h=>both_l (parseLib_eq (parse_evD lib14_L s hs h))
theorem ok15:CallOk Tryd.prog Γ14 (evW code lib15):=evW_ok Tryd.checked.mixed (by kernel_rfl) code_ok lib15_ok
end Go.Proofs.YtmpiobfdchlikaaDoor
end
section
set_option synthInstance.maxSize 4000
set_option maxRecDepth 100000
namespace Nun
open Go Go.RowKit Go.Proofs Go.Proofs.YtmpiobfdchlikaaDoor
theorem str_one {n:Nat} {ps:List PV} (h:fit Tryd.prog n 9 ps):∃ s:Str,ps=[.flat (.string (S s))]∧s.length≤9223372036854775807:=by
 cases n with
 | zero=>cases h
 | succ n =>
   simp only [fit,Tryd.underlying9] at h
   obtain ⟨s,rfl,hs⟩:=h
   refine ⟨s.data.toList,rfl,?_⟩
   have:s.data.toList.length=s.size:=rfl
   rw [this];unfold maxLen at hs;omega
theorem fit_fld {n:Nat} {ps:List PV} (h:fit Tryd.prog n 54 ps):∃ f:Fld,ps=fcells [f]:=by
 cases n with
 | zero=>cases h
 | succ n =>
   simp only [fit,Tryd.underlying54] at h
   obtain ⟨xss,rfl,hl,hx⟩:=h
   obtain ⟨a,b,rfl⟩:∃ a b,xss=[a,b]:=by
    match xss,hl with
    | [a,b],_=>exact ⟨a,b,rfl⟩
   obtain ⟨s0,rfl,h0⟩:=str_one (hx 0 _ a rfl rfl)
   obtain ⟨s1,rfl,h1⟩:=str_one (hx 1 _ b rfl rfl)
   exact ⟨(s0,s1),rfl⟩
theorem fcells_cons (f:Fld) (F:List Fld):fcells (f::F)=fcells [f]++fcells F:=by obtain ⟨a,b⟩:=f;rfl
theorem all_flds:∀ {xss:List (List PV)},(∀ xs∈xss,∃ f:Fld,xs=fcells [f])→∃ F:List Fld,F.length=xss.length∧xss.flatten=fcells F
 | [],_=>⟨[],rfl,rfl⟩
 | x::xss,h=>by
   obtain ⟨f,rfl⟩:=h x (by simp)
   obtain ⟨F,h1,h2⟩:=all_flds (xss:=xss) fun y hy=>h y (List.mem_cons_of_mem _ hy)
   exact ⟨f::F,by rw [List.length_cons,List.length_cons,h1],by rw [List.flatten_cons,h2,← fcells_cons]⟩
theorem fit_flds {n:Nat} {ps:List PV} (h:fit Tryd.prog n 35 ps):∃ F:List Fld,ps=[.slc F.length (fcells F)]∧F.length≤9223372036854775807:=by
 cases n with
 | zero=>cases h
 | succ n =>
   simp only [fit,Tryd.underlying35] at h
   obtain ⟨xss,rfl,hl,hx⟩:=h
   obtain ⟨F,h1,h2⟩:=all_flds fun xs hxs=>fit_fld (hx xs hxs)
   exact ⟨F,by rw [h1,h2],by unfold maxLen at hl;omega⟩
theorem all_parts:∀ {xss:List (List PV)},(∀ xs∈xss,∃ p:LP,xs=p.cells∧p.wide)→∃ P:List LP,P.length=xss.length∧xss.flatten=lcells P∧lwide P
 | [],_=>⟨[],rfl,rfl,by unfold lwide;trivial⟩
 | x::xss,h=>by
   obtain ⟨p,rfl,hw⟩:=h x (by simp)
   obtain ⟨P,h1,h2,h3⟩:=all_parts (xss:=xss) fun y hy=>h y (List.mem_cons_of_mem _ hy)
   exact ⟨p::P,by rw [List.length_cons,List.length_cons,h1],by rw [List.flatten_cons,h2,lcells],by unfold lwide;exact ⟨hw,h3⟩⟩
theorem fit_part:∀ (n:Nat) (ps:List PV),fit Tryd.prog n 38 ps→∃ p:LP,ps=p.cells∧p.wide:=by
 intro n
 induction n using Nat.strongRecOn with
 | ind n ih =>
   intro ps h
   cases n with
   | zero=>cases h
   | succ n =>
     simp only [fit,Tryd.underlying38] at h
     obtain ⟨xss,rfl,hl,hx⟩:=h
     obtain ⟨a,b,c,d,rfl⟩:∃ a b c d,xss=[a,b,c,d]:=by
      match xss,hl with
      | [a,b,c,d],_=>exact ⟨a,b,c,d,rfl⟩
     obtain ⟨F,rfl,h0⟩:=fit_flds (hx 0 _ a rfl rfl)
     obtain ⟨s1,rfl,h1⟩:=str_one (hx 1 _ b rfl rfl)
     obtain ⟨s2,rfl,h2⟩:=str_one (hx 2 _ c rfl rfl)
     have h3:fit Tryd.prog n 36 d:=hx 3 _ d rfl rfl
     cases n with
     | zero=>cases h3
     | succ n =>
       simp only [fit,Tryd.underlying36] at h3
       obtain ⟨yss,rfl,hl3,hy⟩:=h3
       obtain ⟨P,k1,k2,k3⟩:=all_parts fun xs hxs=>ih n (by omega) xs (hy xs hxs)
       refine ⟨.mk F s1 s2 P,?_,?_⟩
       ·simp only [LP.cells,k1,k2,List.flatten_cons,List.flatten_nil,List.append_nil,List.cons_append,List.nil_append]
       ·unfold LP.wide
        exact ⟨h0,h1,h2,by unfold maxLen at hl3;omega,k3⟩
theorem fitA_part {n:Nat} {p:PV} (h:fitA Tryd.prog n 38 p):∃ q:LP,p=.agg q.cells∧q.wide:=by
 simp only [fitA,Tryd.underlying38] at h
 obtain ⟨ps,rfl,h⟩:=h
 obtain ⟨q,rfl,hq⟩:=fit_part _ _ h
 exact ⟨q,rfl,hq⟩
theorem walk_letterSames (W:World) (hm:MaxIs W) (pvs:List PV) (vs:List Value) (hr:Rds W (Fr0 W) [] pvs vs) (hf:fits Tryd.prog Tryd.f4.params.toList pvs):Calls Tryd.prog 4 vs.toArray W (Ret (.bool true) W):=by
 rw [Tryd.params4] at hf
 match pvs,hf with
 | [p,q],⟨⟨n,h1⟩,⟨k,h2⟩,_⟩ =>
   obtain ⟨a,rfl,a1⟩:=fitA_part h1
   obtain ⟨b,rfl,b1⟩:=fitA_part h2
   exact calls_of ok15 (by decide) (sames14_ev l15_parse a b a1 b1) hm hr
end Nun
namespace Go.Proofs.YtmpiobfdchlikaaDoor
open Go.RowKit Nun
open Go.ChangeShapes Go.WideShapes Go.ChangeAt
namespace letterSamesDone
theorem own:ownKnob Tryd.prog.godebug=none:=by kernel_rfl
theorem kids:Kids Tryd.prog (·<Tryd.prog.types.size):=kids_rows (by kernel_rfl) (by kernel_rfl)
theorem full:∀ t e,t<Tryd.prog.types.size→Tryd.prog.underlying t=some (.slice e)→0<Tryd.prog.cellsOf e:=slices_full_of Tryd.prog (by kernel_rfl)
theorem typed:∀ t∈Tryd.f4.params.toList,t<Tryd.prog.types.size:=fun t ht=>by
 rw [Tryd.params4] at ht
 have hall:([38,38].all fun u=>decide (u<Tryd.prog.types.size))=true:=by kernel_rfl
 exact of_decide_eq_true (List.all_eq_true.1 hall t ht)
set_option maxRecDepth 100000 in
theorem lifted (os:Os) (started:os.Started) (H:Type) (enc:TypeId × Value→H) :
 ReturnsInHanded {} Tryd.checked os 4 .any (fun w args=>(Rows.letterSamesSpec.pre enc Tryd.prog Tryd.f4 [] false w args∧laidMetH Tryd.prog [("unicode/utf8.acceptRanges",Rows.laid_unicode_utf8_acceptRanges),("unicode/utf8.first",Rows.laid_unicode_utf8_first)] w)∧sizedMet enc Tryd.prog Tryd.f4 (OpenSpec.ofChange Rows.letterSamesSpec) false w args)
  (Rows.letterSamesSpec.post enc Tryd.prog Tryd.f4 false true false false):=by
 refine returnsInHanded_of_change_and_shaped (C:=Tryd.checked) (X:=fun w _=>laidMetH Tryd.prog [("unicode/utf8.acceptRanges",Rows.laid_unicode_utf8_acceptRanges),("unicode/utf8.first",Rows.laid_unicode_utf8_first)] w) (fun _ _ _ hh h=>h.of_heap hh) own started (by kernel_rfl) Tryd.func4
  (ChangeSpec.witness_shaped (enc:=enc) (C:=Tryd.checked) (os:=os) (X:=fun w _=>laidMetH Tryd.prog [("unicode/utf8.acceptRanges",Rows.laid_unicode_utf8_acceptRanges),("unicode/utf8.first",Rows.laid_unicode_utf8_first)] w) false (laidW os) #[.agg #[.slice none 0 0,.string ⟨#[]⟩,.string ⟨#[]⟩,.slice none 0 0],.agg #[.slice none 0 0,.string ⟨#[]⟩,.string ⟨#[]⟩,.slice none 0 0]] 8 rfl (World.shaped_of_RefB (by kernel_rfl) (by kernel_rfl)) (by kernel_rfl) (by kernel_rfl) (by kernel_rfl) (door_met os _)) ?_
 intro W base args ds gs before hval0 hW _ _ hL hsh _
 have hW':=hW
 obtain ⟨p,q,hA,_⟩:=hW
 obtain ⟨pvs,k1,k2⟩:=args_open kids full typed (fun j t v h1 h2=>hval0 j t v (by simpa using h1) (by simpa using h2)) hA
 have hlen:=trodAll_len hA
 have hc:=walk_letterSames W (max_of_shape hsh) pvs args.toList k1 k2
 rw [Array.toArray_toList] at hc
 refine hc.mono fun e W' ⟨he,bel⟩=>?_
 subst he
 refine ⟨_,rfl,post_law (tb:=4) kids full hW' rfl ?_ rfl Tryd.underlying4 typed bel⟩
 rw [Tryd.params4] at hlen
 match ds,hlen with
 | [d0,d1],_=>rfl
theorem over:Rows.letterSamesRow.holds Tryd.pinned (OpenSpec.ofChange Rows.letterSamesSpec) :=
 OpenClaim.holds_of_wide 4 Tryd.f4 rfl rfl rfl rfl rfl rfl rfl ⟨rfl,rfl,rfl,rfl,rfl⟩ rfl rfl rfl rfl rfl (by kernel_rfl) Tryd.func4 (by kernel_rfl)
  (of_decide_eq_true (by kernel_rfl)) (by unfold Func.isWrapper;first | (rw [if_pos (by decide +kernel)];kernel_rfl) | (rw [if_neg (by decide +kernel)];exact ⟨rfl,rfl⟩))
  (fun os started H enc _=>lifted os started H enc)
theorem proved:Rows.LetterSamesCardSaid :=
 Claim7.holds_tied_plain_at .later [] [.data,.pinned] true (true,"3da07ec4aa14e136b73da3ac0648225e87e5b2478c8f2d167c7cf9db6ceca347") true
  over (fun _ h=>by cases h) (by kernel_rfl) (fun _ h=>by cases h) letterSames_row_tie rfl ⟨rfl,rfl⟩ (by kernel_rfl) rfl
  (fun f fn hf hfn=>by
    obtain rfl:f=4:=Option.some.inj ((show Tryd.prog.funcNamed "nuncio/nunciolaw14.LetterSames"=some 4 by kernel_rfl).symm.trans hf) |>.symm
    obtain rfl:fn=Tryd.f4:=(Option.some.inj (Tryd.func4.symm.trans hfn)).symm
    exact ⟨by kernel_rfl,fun j t ht=>by
     rw [Tryd.params4] at ht
     have hm:t∈[38,38]:=by simpa using Array.mem_of_getElem? ht
     have hall:([38,38].all fun u=>!Tryd.prog.wantsStandIn u)=true:=by kernel_rfl
     exact (show Tryd.prog.wantsStandIn t=false by simpa using List.all_eq_true.1 hall t hm)⟩)
  (by kernel_rfl)
end letterSamesDone
end Go.Proofs.YtmpiobfdchlikaaDoor
end
